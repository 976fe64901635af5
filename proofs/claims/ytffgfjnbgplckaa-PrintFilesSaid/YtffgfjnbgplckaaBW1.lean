import Derived.Test.YtffgfjnbgplckaaBW
import Derived.Test.YtffgfjnbgplckaaT28
import Derived.Test.YtffgfjnbgplckaaBU
set_option linter.unusedSimpArgs false
set_option linter.unusedVariables false
namespace Go.Proofs.Ytffgfjnbgplckaa
open Go.RowKit
set_option maxRecDepth 100000
def telesL : List Bd → List UInt8
  | [] => []
  | t :: ts => [32, 40] ++ bdL t ++ [41] ++ telesL ts
def consL : List Bd → List UInt8
  | [] => []
  | t :: ts => [32, 32] ++ bdL t ++ [59, 10] ++ consL ts
def rowsL : List Rw → List UInt8
  | [] => []
  | t :: ts => rowL t ++ rowsL ts
theorem telesL_app (a b : List Bd) : telesL (a ++ b) = telesL a ++ telesL b := by
  induction a with
  | nil => rfl
  | cons x a ih => simp only [List.cons_append, telesL, ih, List.append_assoc]
theorem consL_app (a b : List Bd) : consL (a ++ b) = consL a ++ consL b := by
  induction a with
  | nil => rfl
  | cons x a ih => simp only [List.cons_append, consL, ih, List.append_assoc]
theorem rowsL_app (a b : List Rw) : rowsL (a ++ b) = rowsL a ++ rowsL b := by
  induction a with
  | nil => rfl
  | cons x a ih => simp only [List.cons_append, rowsL, ih, List.append_assoc]
theorem telesL_take {l : List Bd} {k : Nat} (h : k < l.length) : telesL (l.take (k + 1)) = telesL (l.take k) ++ ([32, 40] ++ bdL l[k] ++ [41]) := by
  rw [List.take_succ_eq_append_getElem h, telesL_app]
  simp [telesL]
theorem consL_take {l : List Bd} {k : Nat} (h : k < l.length) : consL (l.take (k + 1)) = consL (l.take k) ++ ([32, 32] ++ bdL l[k] ++ [59, 10]) := by
  rw [List.take_succ_eq_append_getElem h, consL_app]
  simp [consL]
theorem rowsL_take {l : List Rw} {k : Nat} (h : k < l.length) : rowsL (l.take (k + 1)) = rowsL (l.take k) ++ rowL l[k] := by
  rw [List.take_succ_eq_append_getElem h, rowsL_app]
  simp [rowsL]
def kwL (k : Int) : List UInt8 := if k = 1 then [100, 97, 116, 97] else if k = 2 then [114, 101, 99, 111, 114, 100] else [100, 101, 102]
def declL (d : Dc) : List UInt8 := kwL d.kind ++ [32] ++ d.name.toList ++ telesL d.tele ++ [32, 58, 32] ++ exL d.ty 0 ++ [32, 123, 10] ++ consL d.cons ++ rowsL d.rows ++ [125, 10]
theorem encD_dcmk (k a : Int) (s : ByteArray) (te : List Bd) (ty : Nd) (co : List Bd) (ro : List Rw) : encD (Dc.mk k a s te ty co ro) = [.v (.int .i64 k), .v (.int .i64 a), .v (.string s), .sl (te.map encD), .v (.int .i64 ty.kind), .v (.int .i64 ty.at), .v (.string ty.name), .v (.int .i64 ty.num), .sl (ty.sub.map encD), .sl (co.map encD), .sl (ro.map encD)] := encD_dc _
set_option maxHeartbeats 16000000 in
theorem decl_w (d : Dc) (h : rightD d = true) : WC 77 [aggD d] (declL d) := by
  intro i g o T hW
  obtain ⟨kd, a, s, te, ty, co, ro⟩ := d
  unfold rightD at h
  simp only [Bool.and_eq_true, decide_eq_true_eq] at h
  obtain ⟨⟨⟨⟨⟨⟨⟨⟨hk, hn⟩, hty⟩, hte⟩, hco⟩, -⟩, -⟩, hrl⟩, hro⟩ := h
  have hw := expr_w _ ty (Nat.le_refl _) (exprB_good hty) 0
  unfold bindsB at hte hco
  simp only [Bool.and_eq_true, decide_eq_true_eq] at hte hco
  obtain ⟨htl, hte⟩ := hte
  obtain ⟨hcl, hco⟩ := hco
  have it : ∀ (k : Nat) (h : k < te.length), WC 93 [aggD te[k]] (bdL te[k]) := fun k h => typed_w _ (by
    have := List.all_eq_true.1 hte _ (List.getElem_mem h)
    unfold bindB at this; simp only [Bool.and_eq_true] at this; exact this.2)
  have ic : ∀ (k : Nat) (h : k < co.length), WC 93 [aggD co[k]] (bdL co[k]) := fun k h => typed_w _ (by
    have := List.all_eq_true.1 hco _ (List.getElem_mem h)
    unfold bindB at this; simp only [Bool.and_eq_true] at this; exact this.2)
  have ir : ∀ (k : Nat) (h : k < ro.length), WC 94 [aggD ro[k]] (rowL ro[k]) := fun k h => row_w _ (List.all_eq_true.1 hro _ (List.getElem_mem h))
  clear hte hco hro hn hty
  have HE := Lib.hid (show declL (.mk kd a s te ty co ro) = kwL kd ++ [32] ++ s.toList ++ telesL te ++ [32, 58, 32] ++ exL ty 0 ++ [32, 123, 10] ++ consL co ++ rowsL ro ++ [125, 10] from rfl)
  generalize declL (.mk kd a s te ty co ro) = txt at *
  simp only [aggD, encD_dcmk, List.map_cons, List.map_nil]
  rcases (show kd = 1 ∨ kd = 2 ∨ kd = 3 by omega) with rfl | rfl | rfl
  · refine PCalls.enter Try.func77 rfl Try.ntmps77 (by simp) ?_
    simp only [argsF]
    repeat (first | (with_reducible first | refine Qa ?_ | refine Qb ?_ | refine Qc ?_ | refine Qd ?_ | refine Qe ?_ | refine Qf ?_ | refine Qg ?_ | refine Qh ?_ | refine Qi ?_ | refine Qj ?_ | refine Qk ?_ | refine Ql ?_ | refine Qm ?_ | refine Qn ?_ | refine Qo ?_ | refine Qp rfl ?_) | (first | refine Qq ?_ | refine Qr ?_) | (first | refine Qs ?_ | refine Qt ?_ | refine Qu ?_) | (first | refine Qv ?_ | refine Qw ?_) | (first | refine Qx ?_ | refine Qy ?_) | (first | refine Qz ?_ | refine Ra ?_ | refine Rb ?_))
    refine POps_box_a ?_
    intro i0 hi0
    repeat (first | (with_reducible first | refine Qa ?_ | refine Qb ?_ | refine Qc ?_ | refine Qd ?_ | refine Qe ?_ | refine Qf ?_ | refine Qg ?_ | refine Qh ?_ | refine Qi ?_ | refine Qj ?_ | refine Qk ?_ | refine Ql ?_ | refine Qm ?_ | refine Qn ?_ | refine Qo ?_ | refine Qp rfl ?_) | (first | refine Qq ?_ | refine Qr ?_) | (first | refine Qs ?_ | refine Qt ?_ | refine Qu ?_) | (first | refine Qv ?_ | refine Qw ?_) | (first | refine Qx ?_ | refine Qy ?_) | (first | refine Qz ?_ | refine Ra ?_ | refine Rb ?_))
    refine PW_drawn [(0, .a), (1, .a), (2, .a), (3, .a), (4, .a), (5, .b), (6, .a), (7, .a), (8, .b), (9, .a), (10, .e)] (by kernel_rfl) (by rfl) (by kernel_rfl) ?_
    repeat (first | (with_reducible first | refine Qa ?_ | refine Qb ?_ | refine Qc ?_ | refine Qd ?_ | refine Qe ?_ | refine Qf ?_ | refine Qg ?_ | refine Qh ?_ | refine Qi ?_ | refine Qj ?_ | refine Qk ?_ | refine Ql ?_ | refine Qm ?_ | refine Qn ?_ | refine Qo ?_ | refine Qp rfl ?_) | (first | refine Qq ?_ | refine Qr ?_) | (first | refine Qs ?_ | refine Qt ?_ | refine Qu ?_) | (first | refine Qv ?_ | refine Qw ?_) | (first | refine Qx ?_ | refine Qy ?_) | (first | refine Qz ?_ | refine Ra ?_ | refine Rb ?_))
    refine POrd_bs_a ?_
    refine POrd_wr_a 1 (⟨hW, add_w [⟨#[100, 97, 116, 97]⟩, ⟨#[32]⟩, s] (by simp)⟩) ?_
    intro o1 hW1
    clear hW
    repeat (first | (with_reducible first | refine Qa ?_ | refine Qb ?_ | refine Qc ?_ | refine Qd ?_ | refine Qe ?_ | refine Qf ?_ | refine Qg ?_ | refine Qh ?_ | refine Qi ?_ | refine Qj ?_ | refine Qk ?_ | refine Ql ?_ | refine Qm ?_ | refine Qn ?_ | refine Qo ?_ | refine Qp rfl ?_) | (first | refine Qq ?_ | refine Qr ?_) | (first | refine Qs ?_ | refine Qt ?_ | refine Qu ?_) | (first | refine Qv ?_ | refine Qw ?_) | (first | refine Qx ?_ | refine Qy ?_) | (first | refine Qz ?_ | refine Ra ?_ | refine Rb ?_))
    refine PW_loop (ι := Nat × (List UInt8 × Bool)) (fun k => k.1 ≤ te.length ∧ Wr k.2 (T ++ ([100, 97, 116, 97] ++ [32] ++ s.toList) ++ telesL (te.take k.1))) (fun k => [(0, .ptr i 0), (3, .ptr i0 0), (22, .d (.sl (te.map encD))), (23, .d (.v (.int .i64 te.length))), (24, .d (.v (.int .i64 k.1)))]) (fun k => .box i0 49 [.d (.v (.int .i64 1)), .d (.v (.int .i64 a)), .d (.v (.string s)), .d (.sl (te.map encD)), .d (.v (.int .i64 ty.kind)), .d (.v (.int .i64 ty.at)), .d (.v (.string ty.name)), .d (.v (.int .i64 ty.num)), .d (.sl (ty.sub.map encD)), .d (.sl (co.map encD)), .d (.sl (ro.map encD))] :: wrS i g 103 k.2) (fun k => te.length - k.1) (0, o1) ⟨Nat.zero_le _, by simpa [txts, telesL] using hW1⟩ ?_ ?_ ?_
    · repeat (first | exact sub_nil _ | refine sub_cons (by simp [PF.get]; rfl) (by first | rfl | (simp [*]; done) | fail) ?_)
    · simp only [List.cons_append, List.nil_append]
      repeat (first | exact List.Sublist.refl _ | exact List.nil_sublist _ | refine List.Sublist.cons_cons _ ?_ | refine List.Sublist.cons _ ?_)
    · rintro ⟨k, o⟩ ⟨hk, hWk⟩
      simp only at hk hWk ⊢
      clear hW1
      by_cases hlt : k < te.length
      · have hx := get_enc hlt
        have hc : ((k : Int) < (te.length : Int)) := by omega
        have hn : (0 : Int) ≤ (k : Int) := by omega
        repeat (first | (with_reducible first | refine Qa ?_ | refine Qb ?_ | refine Qc ?_ | refine Qd ?_ | refine Qe ?_ | refine Qf ?_ | refine Qg ?_ | refine Qh ?_ | refine Qi ?_ | refine Qj ?_ | refine Qk ?_ | refine Ql ?_ | refine Qm ?_ | refine Qn ?_ | refine Qo ?_ | refine Qp rfl ?_) | (first | refine Qq ?_ | refine Qr ?_) | (first | refine Qs ?_ | refine Qt ?_ | refine Qu ?_) | (first | refine Qv ?_ | refine Qw ?_) | (first | refine Qx ?_ | refine Qy ?_) | (first | refine Qz ?_ | refine Ra ?_ | refine Rb ?_))
        refine POps_alloc_a ?_
        intro i2 hi2
        simp only [St.freshB_box] at hi2
        repeat (first | (with_reducible first | refine Qa ?_ | refine Qb ?_ | refine Qc ?_ | refine Qd ?_ | refine Qe ?_ | refine Qf ?_ | refine Qg ?_ | refine Qh ?_ | refine Qi ?_ | refine Qj ?_ | refine Qk ?_ | refine Ql ?_ | refine Qm ?_ | refine Qn ?_ | refine Qo ?_ | refine Qp rfl ?_) | (first | refine Qq ?_ | refine Qr ?_) | (first | refine Qs ?_ | refine Qt ?_ | refine Qu ?_) | (first | refine Qv ?_ | refine Qw ?_) | (first | refine Qx ?_ | refine Qy ?_) | (first | refine Qz ?_ | refine Ra ?_ | refine Rb ?_))
        refine Rc ?_
        repeat (first | (with_reducible first | refine Qa ?_ | refine Qb ?_ | refine Qc ?_ | refine Qd ?_ | refine Qe ?_ | refine Qf ?_ | refine Qg ?_ | refine Qh ?_ | refine Qi ?_ | refine Qj ?_ | refine Qk ?_ | refine Ql ?_ | refine Qm ?_ | refine Qn ?_ | refine Qo ?_ | refine Qp rfl ?_) | (first | refine Qq ?_ | refine Qr ?_) | (first | refine Qs ?_ | refine Qt ?_ | refine Qu ?_) | (first | refine Qv ?_ | refine Qw ?_) | (first | refine Qx ?_ | refine Qy ?_) | (first | refine Qz ?_ | refine Ra ?_ | refine Rb ?_))
        refine POps_bs_a ?_
        refine POps_wr_a 2 (⟨hWk, add_w [⟨#[32, 40]⟩] (by simp)⟩) ?_
        intro o5 hW5
        repeat (first | (with_reducible first | refine Qa ?_ | refine Qb ?_ | refine Qc ?_ | refine Qd ?_ | refine Qe ?_ | refine Qf ?_ | refine Qg ?_ | refine Qh ?_ | refine Qi ?_ | refine Qj ?_ | refine Qk ?_ | refine Ql ?_ | refine Qm ?_ | refine Qn ?_ | refine Qo ?_ | refine Qp rfl ?_) | (first | refine Qq ?_ | refine Qr ?_) | (first | refine Qs ?_ | refine Qt ?_ | refine Qu ?_) | (first | refine Qv ?_ | refine Qw ?_) | (first | refine Qx ?_ | refine Qy ?_) | (first | refine Qz ?_ | refine Ra ?_ | refine Rb ?_))
        refine POps_wr_a 2 (⟨hW5, it k hlt⟩) ?_
        intro o6 hW6
        repeat (first | (with_reducible first | refine Qa ?_ | refine Qb ?_ | refine Qc ?_ | refine Qd ?_ | refine Qe ?_ | refine Qf ?_ | refine Qg ?_ | refine Qh ?_ | refine Qi ?_ | refine Qj ?_ | refine Qk ?_ | refine Ql ?_ | refine Qm ?_ | refine Qn ?_ | refine Qo ?_ | refine Qp rfl ?_) | (first | refine Qq ?_ | refine Qr ?_) | (first | refine Qs ?_ | refine Qt ?_ | refine Qu ?_) | (first | refine Qv ?_ | refine Qw ?_) | (first | refine Qx ?_ | refine Qy ?_) | (first | refine Qz ?_ | refine Ra ?_ | refine Rb ?_))
        refine POps_bs_a ?_
        refine POps_wr_a 2 (⟨hW6, add_w [⟨#[41]⟩] (by simp)⟩) ?_
        intro oz hWz
        have hin := wrap_next hlt (by omega)
        repeat (first | (with_reducible first | refine Qa ?_ | refine Qb ?_ | refine Qc ?_ | refine Qd ?_ | refine Qe ?_ | refine Qf ?_ | refine Qg ?_ | refine Qh ?_ | refine Qi ?_ | refine Qj ?_ | refine Qk ?_ | refine Ql ?_ | refine Qm ?_ | refine Qn ?_ | refine Qo ?_ | refine Qp rfl ?_) | (first | refine Qq ?_ | refine Qr ?_) | (first | refine Qs ?_ | refine Qt ?_ | refine Qu ?_) | (first | refine Qv ?_ | refine Qw ?_) | (first | refine Qx ?_ | refine Qy ?_) | (first | refine Qz ?_ | refine Ra ?_ | refine Rb ?_))
        refine ⟨(k + 1, oz), ⟨by simp only; omega, ?_⟩, by simp only; omega, ?_, ?_⟩
        · simp only [telesL_take hlt]
          simpa [txts] using hWz
        · simp only
          repeat (first | exact sub_nil _ | refine sub_cons (by simp [PF.get]; rfl) (by first | rfl | (simp [hin]; done) | fail) ?_)
        · simp only [List.cons_append, List.nil_append]
          repeat (first | exact List.Sublist.refl _ | exact List.nil_sublist _ | refine List.Sublist.cons_cons _ ?_ | refine List.Sublist.cons _ ?_)
      · have hc : ¬ ((k : Int) < (te.length : Int)) := by omega
        rw [List.take_of_length_le (by omega)] at hWk
        repeat (first | (with_reducible first | refine Qa ?_ | refine Qb ?_ | refine Qc ?_ | refine Qd ?_ | refine Qe ?_ | refine Qf ?_ | refine Qg ?_ | refine Qh ?_ | refine Qi ?_ | refine Qj ?_ | refine Qk ?_ | refine Ql ?_ | refine Qm ?_ | refine Qn ?_ | refine Qo ?_ | refine Qp rfl ?_) | (first | refine Qq ?_ | refine Qr ?_) | (first | refine Qs ?_ | refine Qt ?_ | refine Qu ?_) | (first | refine Qv ?_ | refine Qw ?_) | (first | refine Qx ?_ | refine Qy ?_) | (first | refine Qz ?_ | refine Ra ?_ | refine Rb ?_))
        refine POps_bs_a ?_
        refine POps_wr_a 1 (⟨hWk, add_w [⟨#[32, 58, 32]⟩] (by simp)⟩) ?_
        intro o2 hW2
        repeat (first | (with_reducible first | refine Qa ?_ | refine Qb ?_ | refine Qc ?_ | refine Qd ?_ | refine Qe ?_ | refine Qf ?_ | refine Qg ?_ | refine Qh ?_ | refine Qi ?_ | refine Qj ?_ | refine Qk ?_ | refine Ql ?_ | refine Qm ?_ | refine Qn ?_ | refine Qo ?_ | refine Qp rfl ?_) | (first | refine Qq ?_ | refine Qr ?_) | (first | refine Qs ?_ | refine Qt ?_ | refine Qu ?_) | (first | refine Qv ?_ | refine Qw ?_) | (first | refine Qx ?_ | refine Qy ?_) | (first | refine Qz ?_ | refine Ra ?_ | refine Rb ?_))
        refine POps_wr_a 1 (⟨hW2, hw⟩) ?_
        intro o3 hW3
        repeat (first | (with_reducible first | refine Qa ?_ | refine Qb ?_ | refine Qc ?_ | refine Qd ?_ | refine Qe ?_ | refine Qf ?_ | refine Qg ?_ | refine Qh ?_ | refine Qi ?_ | refine Qj ?_ | refine Qk ?_ | refine Ql ?_ | refine Qm ?_ | refine Qn ?_ | refine Qo ?_ | refine Qp rfl ?_) | (first | refine Qq ?_ | refine Qr ?_) | (first | refine Qs ?_ | refine Qt ?_ | refine Qu ?_) | (first | refine Qv ?_ | refine Qw ?_) | (first | refine Qx ?_ | refine Qy ?_) | (first | refine Qz ?_ | refine Ra ?_ | refine Rb ?_))
        refine POps_bs_a ?_
        refine POps_wr_a 1 (⟨hW3, add_w [⟨#[32, 123, 10]⟩] (by simp)⟩) ?_
        intro o4 hW4
        clear hWk hW2 hW3 hk hlt
        repeat (first | (with_reducible first | refine Qa ?_ | refine Qb ?_ | refine Qc ?_ | refine Qd ?_ | refine Qe ?_ | refine Qf ?_ | refine Qg ?_ | refine Qh ?_ | refine Qi ?_ | refine Qj ?_ | refine Qk ?_ | refine Ql ?_ | refine Qm ?_ | refine Qn ?_ | refine Qo ?_ | refine Qp rfl ?_) | (first | refine Qq ?_ | refine Qr ?_) | (first | refine Qs ?_ | refine Qt ?_ | refine Qu ?_) | (first | refine Qv ?_ | refine Qw ?_) | (first | refine Qx ?_ | refine Qy ?_) | (first | refine Qz ?_ | refine Ra ?_ | refine Rb ?_))
        refine PW_loop (ι := Nat × (List UInt8 × Bool)) (fun k => k.1 ≤ co.length ∧ Wr k.2 (T ++ ([100, 97, 116, 97] ++ [32] ++ s.toList) ++ telesL te ++ [32, 58, 32] ++ exL ty 0 ++ [32, 123, 10] ++ consL (co.take k.1))) (fun k => [(0, .ptr i 0), (3, .ptr i0 0), (57, .d (.sl (co.map encD))), (58, .d (.v (.int .i64 co.length))), (59, .d (.v (.int .i64 k.1)))]) (fun k => .box i0 49 [.d (.v (.int .i64 1)), .d (.v (.int .i64 a)), .d (.v (.string s)), .d (.sl (te.map encD)), .d (.v (.int .i64 ty.kind)), .d (.v (.int .i64 ty.at)), .d (.v (.string ty.name)), .d (.v (.int .i64 ty.num)), .d (.sl (ty.sub.map encD)), .d (.sl (co.map encD)), .d (.sl (ro.map encD))] :: wrS i g 103 k.2) (fun k => co.length - k.1) (0, o4) ⟨Nat.zero_le _, by simpa [txts, consL] using hW4⟩ ?_ ?_ ?_
        · repeat (first | exact sub_nil _ | refine sub_cons (by simp [PF.get]; rfl) (by first | rfl | (simp [*]; done) | fail) ?_)
        · simp only [List.cons_append, List.nil_append]
          repeat (first | exact List.Sublist.refl _ | exact List.nil_sublist _ | refine List.Sublist.cons_cons _ ?_ | refine List.Sublist.cons _ ?_)
        · rintro ⟨k, o⟩ ⟨hk, hWk⟩
          simp only at hk hWk ⊢
          clear hW4
          by_cases hlt : k < co.length
          · have hx := get_enc hlt
            have hc : ((k : Int) < (co.length : Int)) := by omega
            have hn : (0 : Int) ≤ (k : Int) := by omega
            repeat (first | (with_reducible first | refine Qa ?_ | refine Qb ?_ | refine Qc ?_ | refine Qd ?_ | refine Qe ?_ | refine Qf ?_ | refine Qg ?_ | refine Qh ?_ | refine Qi ?_ | refine Qj ?_ | refine Qk ?_ | refine Ql ?_ | refine Qm ?_ | refine Qn ?_ | refine Qo ?_ | refine Qp rfl ?_) | (first | refine Qq ?_ | refine Qr ?_) | (first | refine Qs ?_ | refine Qt ?_ | refine Qu ?_) | (first | refine Qv ?_ | refine Qw ?_) | (first | refine Qx ?_ | refine Qy ?_) | (first | refine Qz ?_ | refine Ra ?_ | refine Rb ?_))
            refine POps_alloc_a ?_
            intro i2 hi2
            simp only [St.freshB_box] at hi2
            repeat (first | (with_reducible first | refine Qa ?_ | refine Qb ?_ | refine Qc ?_ | refine Qd ?_ | refine Qe ?_ | refine Qf ?_ | refine Qg ?_ | refine Qh ?_ | refine Qi ?_ | refine Qj ?_ | refine Qk ?_ | refine Ql ?_ | refine Qm ?_ | refine Qn ?_ | refine Qo ?_ | refine Qp rfl ?_) | (first | refine Qq ?_ | refine Qr ?_) | (first | refine Qs ?_ | refine Qt ?_ | refine Qu ?_) | (first | refine Qv ?_ | refine Qw ?_) | (first | refine Qx ?_ | refine Qy ?_) | (first | refine Qz ?_ | refine Ra ?_ | refine Rb ?_))
            refine Rc ?_
            repeat (first | (with_reducible first | refine Qa ?_ | refine Qb ?_ | refine Qc ?_ | refine Qd ?_ | refine Qe ?_ | refine Qf ?_ | refine Qg ?_ | refine Qh ?_ | refine Qi ?_ | refine Qj ?_ | refine Qk ?_ | refine Ql ?_ | refine Qm ?_ | refine Qn ?_ | refine Qo ?_ | refine Qp rfl ?_) | (first | refine Qq ?_ | refine Qr ?_) | (first | refine Qs ?_ | refine Qt ?_ | refine Qu ?_) | (first | refine Qv ?_ | refine Qw ?_) | (first | refine Qx ?_ | refine Qy ?_) | (first | refine Qz ?_ | refine Ra ?_ | refine Rb ?_))
            refine POps_bs_a ?_
            refine POps_wr_a 2 (⟨hWk, add_w [⟨#[32, 32]⟩] (by simp)⟩) ?_
            intro o5 hW5
            repeat (first | (with_reducible first | refine Qa ?_ | refine Qb ?_ | refine Qc ?_ | refine Qd ?_ | refine Qe ?_ | refine Qf ?_ | refine Qg ?_ | refine Qh ?_ | refine Qi ?_ | refine Qj ?_ | refine Qk ?_ | refine Ql ?_ | refine Qm ?_ | refine Qn ?_ | refine Qo ?_ | refine Qp rfl ?_) | (first | refine Qq ?_ | refine Qr ?_) | (first | refine Qs ?_ | refine Qt ?_ | refine Qu ?_) | (first | refine Qv ?_ | refine Qw ?_) | (first | refine Qx ?_ | refine Qy ?_) | (first | refine Qz ?_ | refine Ra ?_ | refine Rb ?_))
            refine POps_wr_a 2 (⟨hW5, ic k hlt⟩) ?_
            intro o6 hW6
            repeat (first | (with_reducible first | refine Qa ?_ | refine Qb ?_ | refine Qc ?_ | refine Qd ?_ | refine Qe ?_ | refine Qf ?_ | refine Qg ?_ | refine Qh ?_ | refine Qi ?_ | refine Qj ?_ | refine Qk ?_ | refine Ql ?_ | refine Qm ?_ | refine Qn ?_ | refine Qo ?_ | refine Qp rfl ?_) | (first | refine Qq ?_ | refine Qr ?_) | (first | refine Qs ?_ | refine Qt ?_ | refine Qu ?_) | (first | refine Qv ?_ | refine Qw ?_) | (first | refine Qx ?_ | refine Qy ?_) | (first | refine Qz ?_ | refine Ra ?_ | refine Rb ?_))
            refine POps_bs_a ?_
            refine POps_wr_a 2 (⟨hW6, add_w [⟨#[59, 10]⟩] (by simp)⟩) ?_
            intro oz hWz
            have hin := wrap_next hlt (by omega)
            repeat (first | (with_reducible first | refine Qa ?_ | refine Qb ?_ | refine Qc ?_ | refine Qd ?_ | refine Qe ?_ | refine Qf ?_ | refine Qg ?_ | refine Qh ?_ | refine Qi ?_ | refine Qj ?_ | refine Qk ?_ | refine Ql ?_ | refine Qm ?_ | refine Qn ?_ | refine Qo ?_ | refine Qp rfl ?_) | (first | refine Qq ?_ | refine Qr ?_) | (first | refine Qs ?_ | refine Qt ?_ | refine Qu ?_) | (first | refine Qv ?_ | refine Qw ?_) | (first | refine Qx ?_ | refine Qy ?_) | (first | refine Qz ?_ | refine Ra ?_ | refine Rb ?_))
            refine ⟨(k + 1, oz), ⟨by simp only; omega, ?_⟩, by simp only; omega, ?_, ?_⟩
            · simp only [consL_take hlt]
              simpa [txts] using hWz
            · simp only
              repeat (first | exact sub_nil _ | refine sub_cons (by simp [PF.get]; rfl) (by first | rfl | (simp [hin]; done) | fail) ?_)
            · simp only [List.cons_append, List.nil_append]
              repeat (first | exact List.Sublist.refl _ | exact List.nil_sublist _ | refine List.Sublist.cons_cons _ ?_ | refine List.Sublist.cons _ ?_)
          · have hc : ¬ ((k : Int) < (co.length : Int)) := by omega
            rw [List.take_of_length_le (by omega)] at hWk
            have hW7 := hWk
            generalize o = o7 at hW7 ⊢
            clear hWk hk hlt
            repeat (first | (with_reducible first | refine Qa ?_ | refine Qb ?_ | refine Qc ?_ | refine Qd ?_ | refine Qe ?_ | refine Qf ?_ | refine Qg ?_ | refine Qh ?_ | refine Qi ?_ | refine Qj ?_ | refine Qk ?_ | refine Ql ?_ | refine Qm ?_ | refine Qn ?_ | refine Qo ?_ | refine Qp rfl ?_) | (first | refine Qq ?_ | refine Qr ?_) | (first | refine Qs ?_ | refine Qt ?_ | refine Qu ?_) | (first | refine Qv ?_ | refine Qw ?_) | (first | refine Qx ?_ | refine Qy ?_) | (first | refine Qz ?_ | refine Ra ?_ | refine Rb ?_))
            refine PW_loop (ι := Nat × (List UInt8 × Bool)) (fun k => k.1 ≤ ro.length ∧ Wr k.2 (T ++ ([100, 97, 116, 97] ++ [32] ++ s.toList) ++ telesL te ++ [32, 58, 32] ++ exL ty 0 ++ [32, 123, 10] ++ consL co ++ rowsL (ro.take k.1))) (fun k => [(0, .ptr i 0), (3, .ptr i0 0), (78, .d (.sl (ro.map encD))), (79, .d (.v (.int .i64 ro.length))), (80, .d (.v (.int .i64 k.1)))]) (fun k => .box i0 49 [.d (.v (.int .i64 1)), .d (.v (.int .i64 a)), .d (.v (.string s)), .d (.sl (te.map encD)), .d (.v (.int .i64 ty.kind)), .d (.v (.int .i64 ty.at)), .d (.v (.string ty.name)), .d (.v (.int .i64 ty.num)), .d (.sl (ty.sub.map encD)), .d (.sl (co.map encD)), .d (.sl (ro.map encD))] :: wrS i g 103 k.2) (fun k => ro.length - k.1) (0, o7) ⟨Nat.zero_le _, by simpa [txts, rowsL] using hW7⟩ ?_ ?_ ?_
            · repeat (first | exact sub_nil _ | refine sub_cons (by simp [PF.get]; rfl) (by first | rfl | (simp [*]; done) | fail) ?_)
            · simp only [List.cons_append, List.nil_append]
              repeat (first | exact List.Sublist.refl _ | exact List.nil_sublist _ | refine List.Sublist.cons_cons _ ?_ | refine List.Sublist.cons _ ?_)
            · rintro ⟨k, o⟩ ⟨hk, hWk⟩
              simp only at hk hWk ⊢
              clear hW7
              by_cases hlt : k < ro.length
              · have hx := get_enc hlt
                have hc : ((k : Int) < (ro.length : Int)) := by omega
                have hn : (0 : Int) ≤ (k : Int) := by omega
                repeat (first | (with_reducible first | refine Qa ?_ | refine Qb ?_ | refine Qc ?_ | refine Qd ?_ | refine Qe ?_ | refine Qf ?_ | refine Qg ?_ | refine Qh ?_ | refine Qi ?_ | refine Qj ?_ | refine Qk ?_ | refine Ql ?_ | refine Qm ?_ | refine Qn ?_ | refine Qo ?_ | refine Qp rfl ?_) | (first | refine Qq ?_ | refine Qr ?_) | (first | refine Qs ?_ | refine Qt ?_ | refine Qu ?_) | (first | refine Qv ?_ | refine Qw ?_) | (first | refine Qx ?_ | refine Qy ?_) | (first | refine Qz ?_ | refine Ra ?_ | refine Rb ?_))
                refine POps_alloc_a ?_
                intro i2 hi2
                simp only [St.freshB_box] at hi2
                repeat (first | (with_reducible first | refine Qa ?_ | refine Qb ?_ | refine Qc ?_ | refine Qd ?_ | refine Qe ?_ | refine Qf ?_ | refine Qg ?_ | refine Qh ?_ | refine Qi ?_ | refine Qj ?_ | refine Qk ?_ | refine Ql ?_ | refine Qm ?_ | refine Qn ?_ | refine Qo ?_ | refine Qp rfl ?_) | (first | refine Qq ?_ | refine Qr ?_) | (first | refine Qs ?_ | refine Qt ?_ | refine Qu ?_) | (first | refine Qv ?_ | refine Qw ?_) | (first | refine Qx ?_ | refine Qy ?_) | (first | refine Qz ?_ | refine Ra ?_ | refine Rb ?_))
                refine Rc ?_
                repeat (first | (with_reducible first | refine Qa ?_ | refine Qb ?_ | refine Qc ?_ | refine Qd ?_ | refine Qe ?_ | refine Qf ?_ | refine Qg ?_ | refine Qh ?_ | refine Qi ?_ | refine Qj ?_ | refine Qk ?_ | refine Ql ?_ | refine Qm ?_ | refine Qn ?_ | refine Qo ?_ | refine Qp rfl ?_) | (first | refine Qq ?_ | refine Qr ?_) | (first | refine Qs ?_ | refine Qt ?_ | refine Qu ?_) | (first | refine Qv ?_ | refine Qw ?_) | (first | refine Qx ?_ | refine Qy ?_) | (first | refine Qz ?_ | refine Ra ?_ | refine Rb ?_))
                refine POps_wr_a 2 (⟨hWk, ir k hlt⟩) ?_
                intro oz hWz
                have hin := wrap_next hlt (by omega)
                repeat (first | (with_reducible first | refine Qa ?_ | refine Qb ?_ | refine Qc ?_ | refine Qd ?_ | refine Qe ?_ | refine Qf ?_ | refine Qg ?_ | refine Qh ?_ | refine Qi ?_ | refine Qj ?_ | refine Qk ?_ | refine Ql ?_ | refine Qm ?_ | refine Qn ?_ | refine Qo ?_ | refine Qp rfl ?_) | (first | refine Qq ?_ | refine Qr ?_) | (first | refine Qs ?_ | refine Qt ?_ | refine Qu ?_) | (first | refine Qv ?_ | refine Qw ?_) | (first | refine Qx ?_ | refine Qy ?_) | (first | refine Qz ?_ | refine Ra ?_ | refine Rb ?_))
                refine ⟨(k + 1, oz), ⟨by simp only; omega, ?_⟩, by simp only; omega, ?_, ?_⟩
                · simp only [rowsL_take hlt]
                  simpa [txts] using hWz
                · simp only
                  repeat (first | exact sub_nil _ | refine sub_cons (by simp [PF.get]; rfl) (by first | rfl | (simp [hin]; done) | fail) ?_)
                · simp only [List.cons_append, List.nil_append]
                  repeat (first | exact List.Sublist.refl _ | exact List.nil_sublist _ | refine List.Sublist.cons_cons _ ?_ | refine List.Sublist.cons _ ?_)
              · have hc : ¬ ((k : Int) < (ro.length : Int)) := by omega
                rw [List.take_of_length_le (by omega)] at hWk
                repeat (first | (with_reducible first | refine Qa ?_ | refine Qb ?_ | refine Qc ?_ | refine Qd ?_ | refine Qe ?_ | refine Qf ?_ | refine Qg ?_ | refine Qh ?_ | refine Qi ?_ | refine Qj ?_ | refine Qk ?_ | refine Ql ?_ | refine Qm ?_ | refine Qn ?_ | refine Qo ?_ | refine Qp rfl ?_) | (first | refine Qq ?_ | refine Qr ?_) | (first | refine Qs ?_ | refine Qt ?_ | refine Qu ?_) | (first | refine Qv ?_ | refine Qw ?_) | (first | refine Qx ?_ | refine Qy ?_) | (first | refine Qz ?_ | refine Ra ?_ | refine Rb ?_))
                refine POps_bs_a ?_
                refine POps_wr_a 1 (⟨hWk, add_w [⟨#[125, 10]⟩] (by simp)⟩) ?_
                intro o8 hW8
                repeat (first | (with_reducible first | refine Qa ?_ | refine Qb ?_ | refine Qc ?_ | refine Qd ?_ | refine Qe ?_ | refine Qf ?_ | refine Qg ?_ | refine Qh ?_ | refine Qi ?_ | refine Qj ?_ | refine Qk ?_ | refine Ql ?_ | refine Qm ?_ | refine Qn ?_ | refine Qo ?_ | refine Qp rfl ?_) | (first | refine Qq ?_ | refine Qr ?_) | (first | refine Qs ?_ | refine Qt ?_ | refine Qu ?_) | (first | refine Qv ?_ | refine Qw ?_) | (first | refine Qx ?_ | refine Qy ?_) | (first | refine Qz ?_ | refine Ra ?_ | refine Rb ?_))
                refine retP_keep (by simp) (by simp only [Try.results77]; rfl) (by simp [resP]; rfl) (by repeat (first | exact List.Sublist.refl _ | exact List.nil_sublist _ | refine List.Sublist.cons_cons _ ?_ | refine List.Sublist.cons _ ?_)) ⟨rfl, o8, ?_, rfl⟩
                rw [HE.out]
                simpa [txts, kwL] using hW8
  · refine PCalls.enter Try.func77 rfl Try.ntmps77 (by simp) ?_
    simp only [argsF]
    repeat (first | (with_reducible first | refine Qa ?_ | refine Qb ?_ | refine Qc ?_ | refine Qd ?_ | refine Qe ?_ | refine Qf ?_ | refine Qg ?_ | refine Qh ?_ | refine Qi ?_ | refine Qj ?_ | refine Qk ?_ | refine Ql ?_ | refine Qm ?_ | refine Qn ?_ | refine Qo ?_ | refine Qp rfl ?_) | (first | refine Qq ?_ | refine Qr ?_) | (first | refine Qs ?_ | refine Qt ?_ | refine Qu ?_) | (first | refine Qv ?_ | refine Qw ?_) | (first | refine Qx ?_ | refine Qy ?_) | (first | refine Qz ?_ | refine Ra ?_ | refine Rb ?_))
    refine POps_box_a ?_
    intro i0 hi0
    repeat (first | (with_reducible first | refine Qa ?_ | refine Qb ?_ | refine Qc ?_ | refine Qd ?_ | refine Qe ?_ | refine Qf ?_ | refine Qg ?_ | refine Qh ?_ | refine Qi ?_ | refine Qj ?_ | refine Qk ?_ | refine Ql ?_ | refine Qm ?_ | refine Qn ?_ | refine Qo ?_ | refine Qp rfl ?_) | (first | refine Qq ?_ | refine Qr ?_) | (first | refine Qs ?_ | refine Qt ?_ | refine Qu ?_) | (first | refine Qv ?_ | refine Qw ?_) | (first | refine Qx ?_ | refine Qy ?_) | (first | refine Qz ?_ | refine Ra ?_ | refine Rb ?_))
    refine PW_drawn [(0, .a), (1, .a), (2, .a), (3, .a), (4, .a), (5, .b), (6, .a), (7, .a), (8, .b), (9, .a), (10, .e)] (by kernel_rfl) (by rfl) (by kernel_rfl) ?_
    repeat (first | (with_reducible first | refine Qa ?_ | refine Qb ?_ | refine Qc ?_ | refine Qd ?_ | refine Qe ?_ | refine Qf ?_ | refine Qg ?_ | refine Qh ?_ | refine Qi ?_ | refine Qj ?_ | refine Qk ?_ | refine Ql ?_ | refine Qm ?_ | refine Qn ?_ | refine Qo ?_ | refine Qp rfl ?_) | (first | refine Qq ?_ | refine Qr ?_) | (first | refine Qs ?_ | refine Qt ?_ | refine Qu ?_) | (first | refine Qv ?_ | refine Qw ?_) | (first | refine Qx ?_ | refine Qy ?_) | (first | refine Qz ?_ | refine Ra ?_ | refine Rb ?_))
    refine POrd_bs_a ?_
    refine POrd_wr_a 1 (⟨hW, add_w [⟨#[114, 101, 99, 111, 114, 100]⟩, ⟨#[32]⟩, s] (by simp)⟩) ?_
    intro o1 hW1
    clear hW
    repeat (first | (with_reducible first | refine Qa ?_ | refine Qb ?_ | refine Qc ?_ | refine Qd ?_ | refine Qe ?_ | refine Qf ?_ | refine Qg ?_ | refine Qh ?_ | refine Qi ?_ | refine Qj ?_ | refine Qk ?_ | refine Ql ?_ | refine Qm ?_ | refine Qn ?_ | refine Qo ?_ | refine Qp rfl ?_) | (first | refine Qq ?_ | refine Qr ?_) | (first | refine Qs ?_ | refine Qt ?_ | refine Qu ?_) | (first | refine Qv ?_ | refine Qw ?_) | (first | refine Qx ?_ | refine Qy ?_) | (first | refine Qz ?_ | refine Ra ?_ | refine Rb ?_))
    refine PW_loop (ι := Nat × (List UInt8 × Bool)) (fun k => k.1 ≤ te.length ∧ Wr k.2 (T ++ ([114, 101, 99, 111, 114, 100] ++ [32] ++ s.toList) ++ telesL (te.take k.1))) (fun k => [(0, .ptr i 0), (3, .ptr i0 0), (22, .d (.sl (te.map encD))), (23, .d (.v (.int .i64 te.length))), (24, .d (.v (.int .i64 k.1)))]) (fun k => .box i0 49 [.d (.v (.int .i64 2)), .d (.v (.int .i64 a)), .d (.v (.string s)), .d (.sl (te.map encD)), .d (.v (.int .i64 ty.kind)), .d (.v (.int .i64 ty.at)), .d (.v (.string ty.name)), .d (.v (.int .i64 ty.num)), .d (.sl (ty.sub.map encD)), .d (.sl (co.map encD)), .d (.sl (ro.map encD))] :: wrS i g 103 k.2) (fun k => te.length - k.1) (0, o1) ⟨Nat.zero_le _, by simpa [txts, telesL] using hW1⟩ ?_ ?_ ?_
    · repeat (first | exact sub_nil _ | refine sub_cons (by simp [PF.get]; rfl) (by first | rfl | (simp [*]; done) | fail) ?_)
    · simp only [List.cons_append, List.nil_append]
      repeat (first | exact List.Sublist.refl _ | exact List.nil_sublist _ | refine List.Sublist.cons_cons _ ?_ | refine List.Sublist.cons _ ?_)
    · rintro ⟨k, o⟩ ⟨hk, hWk⟩
      simp only at hk hWk ⊢
      clear hW1
      by_cases hlt : k < te.length
      · have hx := get_enc hlt
        have hc : ((k : Int) < (te.length : Int)) := by omega
        have hn : (0 : Int) ≤ (k : Int) := by omega
        repeat (first | (with_reducible first | refine Qa ?_ | refine Qb ?_ | refine Qc ?_ | refine Qd ?_ | refine Qe ?_ | refine Qf ?_ | refine Qg ?_ | refine Qh ?_ | refine Qi ?_ | refine Qj ?_ | refine Qk ?_ | refine Ql ?_ | refine Qm ?_ | refine Qn ?_ | refine Qo ?_ | refine Qp rfl ?_) | (first | refine Qq ?_ | refine Qr ?_) | (first | refine Qs ?_ | refine Qt ?_ | refine Qu ?_) | (first | refine Qv ?_ | refine Qw ?_) | (first | refine Qx ?_ | refine Qy ?_) | (first | refine Qz ?_ | refine Ra ?_ | refine Rb ?_))
        refine POps_alloc_a ?_
        intro i2 hi2
        simp only [St.freshB_box] at hi2
        repeat (first | (with_reducible first | refine Qa ?_ | refine Qb ?_ | refine Qc ?_ | refine Qd ?_ | refine Qe ?_ | refine Qf ?_ | refine Qg ?_ | refine Qh ?_ | refine Qi ?_ | refine Qj ?_ | refine Qk ?_ | refine Ql ?_ | refine Qm ?_ | refine Qn ?_ | refine Qo ?_ | refine Qp rfl ?_) | (first | refine Qq ?_ | refine Qr ?_) | (first | refine Qs ?_ | refine Qt ?_ | refine Qu ?_) | (first | refine Qv ?_ | refine Qw ?_) | (first | refine Qx ?_ | refine Qy ?_) | (first | refine Qz ?_ | refine Ra ?_ | refine Rb ?_))
        refine Rc ?_
        repeat (first | (with_reducible first | refine Qa ?_ | refine Qb ?_ | refine Qc ?_ | refine Qd ?_ | refine Qe ?_ | refine Qf ?_ | refine Qg ?_ | refine Qh ?_ | refine Qi ?_ | refine Qj ?_ | refine Qk ?_ | refine Ql ?_ | refine Qm ?_ | refine Qn ?_ | refine Qo ?_ | refine Qp rfl ?_) | (first | refine Qq ?_ | refine Qr ?_) | (first | refine Qs ?_ | refine Qt ?_ | refine Qu ?_) | (first | refine Qv ?_ | refine Qw ?_) | (first | refine Qx ?_ | refine Qy ?_) | (first | refine Qz ?_ | refine Ra ?_ | refine Rb ?_))
        refine POps_bs_a ?_
        refine POps_wr_a 2 (⟨hWk, add_w [⟨#[32, 40]⟩] (by simp)⟩) ?_
        intro o5 hW5
        repeat (first | (with_reducible first | refine Qa ?_ | refine Qb ?_ | refine Qc ?_ | refine Qd ?_ | refine Qe ?_ | refine Qf ?_ | refine Qg ?_ | refine Qh ?_ | refine Qi ?_ | refine Qj ?_ | refine Qk ?_ | refine Ql ?_ | refine Qm ?_ | refine Qn ?_ | refine Qo ?_ | refine Qp rfl ?_) | (first | refine Qq ?_ | refine Qr ?_) | (first | refine Qs ?_ | refine Qt ?_ | refine Qu ?_) | (first | refine Qv ?_ | refine Qw ?_) | (first | refine Qx ?_ | refine Qy ?_) | (first | refine Qz ?_ | refine Ra ?_ | refine Rb ?_))
        refine POps_wr_a 2 (⟨hW5, it k hlt⟩) ?_
        intro o6 hW6
        repeat (first | (with_reducible first | refine Qa ?_ | refine Qb ?_ | refine Qc ?_ | refine Qd ?_ | refine Qe ?_ | refine Qf ?_ | refine Qg ?_ | refine Qh ?_ | refine Qi ?_ | refine Qj ?_ | refine Qk ?_ | refine Ql ?_ | refine Qm ?_ | refine Qn ?_ | refine Qo ?_ | refine Qp rfl ?_) | (first | refine Qq ?_ | refine Qr ?_) | (first | refine Qs ?_ | refine Qt ?_ | refine Qu ?_) | (first | refine Qv ?_ | refine Qw ?_) | (first | refine Qx ?_ | refine Qy ?_) | (first | refine Qz ?_ | refine Ra ?_ | refine Rb ?_))
        refine POps_bs_a ?_
        refine POps_wr_a 2 (⟨hW6, add_w [⟨#[41]⟩] (by simp)⟩) ?_
        intro oz hWz
        have hin := wrap_next hlt (by omega)
        repeat (first | (with_reducible first | refine Qa ?_ | refine Qb ?_ | refine Qc ?_ | refine Qd ?_ | refine Qe ?_ | refine Qf ?_ | refine Qg ?_ | refine Qh ?_ | refine Qi ?_ | refine Qj ?_ | refine Qk ?_ | refine Ql ?_ | refine Qm ?_ | refine Qn ?_ | refine Qo ?_ | refine Qp rfl ?_) | (first | refine Qq ?_ | refine Qr ?_) | (first | refine Qs ?_ | refine Qt ?_ | refine Qu ?_) | (first | refine Qv ?_ | refine Qw ?_) | (first | refine Qx ?_ | refine Qy ?_) | (first | refine Qz ?_ | refine Ra ?_ | refine Rb ?_))
        refine ⟨(k + 1, oz), ⟨by simp only; omega, ?_⟩, by simp only; omega, ?_, ?_⟩
        · simp only [telesL_take hlt]
          simpa [txts] using hWz
        · simp only
          repeat (first | exact sub_nil _ | refine sub_cons (by simp [PF.get]; rfl) (by first | rfl | (simp [hin]; done) | fail) ?_)
        · simp only [List.cons_append, List.nil_append]
          repeat (first | exact List.Sublist.refl _ | exact List.nil_sublist _ | refine List.Sublist.cons_cons _ ?_ | refine List.Sublist.cons _ ?_)
      · have hc : ¬ ((k : Int) < (te.length : Int)) := by omega
        rw [List.take_of_length_le (by omega)] at hWk
        repeat (first | (with_reducible first | refine Qa ?_ | refine Qb ?_ | refine Qc ?_ | refine Qd ?_ | refine Qe ?_ | refine Qf ?_ | refine Qg ?_ | refine Qh ?_ | refine Qi ?_ | refine Qj ?_ | refine Qk ?_ | refine Ql ?_ | refine Qm ?_ | refine Qn ?_ | refine Qo ?_ | refine Qp rfl ?_) | (first | refine Qq ?_ | refine Qr ?_) | (first | refine Qs ?_ | refine Qt ?_ | refine Qu ?_) | (first | refine Qv ?_ | refine Qw ?_) | (first | refine Qx ?_ | refine Qy ?_) | (first | refine Qz ?_ | refine Ra ?_ | refine Rb ?_))
        refine POps_bs_a ?_
        refine POps_wr_a 1 (⟨hWk, add_w [⟨#[32, 58, 32]⟩] (by simp)⟩) ?_
        intro o2 hW2
        repeat (first | (with_reducible first | refine Qa ?_ | refine Qb ?_ | refine Qc ?_ | refine Qd ?_ | refine Qe ?_ | refine Qf ?_ | refine Qg ?_ | refine Qh ?_ | refine Qi ?_ | refine Qj ?_ | refine Qk ?_ | refine Ql ?_ | refine Qm ?_ | refine Qn ?_ | refine Qo ?_ | refine Qp rfl ?_) | (first | refine Qq ?_ | refine Qr ?_) | (first | refine Qs ?_ | refine Qt ?_ | refine Qu ?_) | (first | refine Qv ?_ | refine Qw ?_) | (first | refine Qx ?_ | refine Qy ?_) | (first | refine Qz ?_ | refine Ra ?_ | refine Rb ?_))
        refine POps_wr_a 1 (⟨hW2, hw⟩) ?_
        intro o3 hW3
        repeat (first | (with_reducible first | refine Qa ?_ | refine Qb ?_ | refine Qc ?_ | refine Qd ?_ | refine Qe ?_ | refine Qf ?_ | refine Qg ?_ | refine Qh ?_ | refine Qi ?_ | refine Qj ?_ | refine Qk ?_ | refine Ql ?_ | refine Qm ?_ | refine Qn ?_ | refine Qo ?_ | refine Qp rfl ?_) | (first | refine Qq ?_ | refine Qr ?_) | (first | refine Qs ?_ | refine Qt ?_ | refine Qu ?_) | (first | refine Qv ?_ | refine Qw ?_) | (first | refine Qx ?_ | refine Qy ?_) | (first | refine Qz ?_ | refine Ra ?_ | refine Rb ?_))
        refine POps_bs_a ?_
        refine POps_wr_a 1 (⟨hW3, add_w [⟨#[32, 123, 10]⟩] (by simp)⟩) ?_
        intro o4 hW4
        clear hWk hW2 hW3 hk hlt
        repeat (first | (with_reducible first | refine Qa ?_ | refine Qb ?_ | refine Qc ?_ | refine Qd ?_ | refine Qe ?_ | refine Qf ?_ | refine Qg ?_ | refine Qh ?_ | refine Qi ?_ | refine Qj ?_ | refine Qk ?_ | refine Ql ?_ | refine Qm ?_ | refine Qn ?_ | refine Qo ?_ | refine Qp rfl ?_) | (first | refine Qq ?_ | refine Qr ?_) | (first | refine Qs ?_ | refine Qt ?_ | refine Qu ?_) | (first | refine Qv ?_ | refine Qw ?_) | (first | refine Qx ?_ | refine Qy ?_) | (first | refine Qz ?_ | refine Ra ?_ | refine Rb ?_))
        refine PW_loop (ι := Nat × (List UInt8 × Bool)) (fun k => k.1 ≤ co.length ∧ Wr k.2 (T ++ ([114, 101, 99, 111, 114, 100] ++ [32] ++ s.toList) ++ telesL te ++ [32, 58, 32] ++ exL ty 0 ++ [32, 123, 10] ++ consL (co.take k.1))) (fun k => [(0, .ptr i 0), (3, .ptr i0 0), (57, .d (.sl (co.map encD))), (58, .d (.v (.int .i64 co.length))), (59, .d (.v (.int .i64 k.1)))]) (fun k => .box i0 49 [.d (.v (.int .i64 2)), .d (.v (.int .i64 a)), .d (.v (.string s)), .d (.sl (te.map encD)), .d (.v (.int .i64 ty.kind)), .d (.v (.int .i64 ty.at)), .d (.v (.string ty.name)), .d (.v (.int .i64 ty.num)), .d (.sl (ty.sub.map encD)), .d (.sl (co.map encD)), .d (.sl (ro.map encD))] :: wrS i g 103 k.2) (fun k => co.length - k.1) (0, o4) ⟨Nat.zero_le _, by simpa [txts, consL] using hW4⟩ ?_ ?_ ?_
        · repeat (first | exact sub_nil _ | refine sub_cons (by simp [PF.get]; rfl) (by first | rfl | (simp [*]; done) | fail) ?_)
        · simp only [List.cons_append, List.nil_append]
          repeat (first | exact List.Sublist.refl _ | exact List.nil_sublist _ | refine List.Sublist.cons_cons _ ?_ | refine List.Sublist.cons _ ?_)
        · rintro ⟨k, o⟩ ⟨hk, hWk⟩
          simp only at hk hWk ⊢
          clear hW4
          by_cases hlt : k < co.length
          · have hx := get_enc hlt
            have hc : ((k : Int) < (co.length : Int)) := by omega
            have hn : (0 : Int) ≤ (k : Int) := by omega
            repeat (first | (with_reducible first | refine Qa ?_ | refine Qb ?_ | refine Qc ?_ | refine Qd ?_ | refine Qe ?_ | refine Qf ?_ | refine Qg ?_ | refine Qh ?_ | refine Qi ?_ | refine Qj ?_ | refine Qk ?_ | refine Ql ?_ | refine Qm ?_ | refine Qn ?_ | refine Qo ?_ | refine Qp rfl ?_) | (first | refine Qq ?_ | refine Qr ?_) | (first | refine Qs ?_ | refine Qt ?_ | refine Qu ?_) | (first | refine Qv ?_ | refine Qw ?_) | (first | refine Qx ?_ | refine Qy ?_) | (first | refine Qz ?_ | refine Ra ?_ | refine Rb ?_))
            refine POps_alloc_a ?_
            intro i2 hi2
            simp only [St.freshB_box] at hi2
            repeat (first | (with_reducible first | refine Qa ?_ | refine Qb ?_ | refine Qc ?_ | refine Qd ?_ | refine Qe ?_ | refine Qf ?_ | refine Qg ?_ | refine Qh ?_ | refine Qi ?_ | refine Qj ?_ | refine Qk ?_ | refine Ql ?_ | refine Qm ?_ | refine Qn ?_ | refine Qo ?_ | refine Qp rfl ?_) | (first | refine Qq ?_ | refine Qr ?_) | (first | refine Qs ?_ | refine Qt ?_ | refine Qu ?_) | (first | refine Qv ?_ | refine Qw ?_) | (first | refine Qx ?_ | refine Qy ?_) | (first | refine Qz ?_ | refine Ra ?_ | refine Rb ?_))
            refine Rc ?_
            repeat (first | (with_reducible first | refine Qa ?_ | refine Qb ?_ | refine Qc ?_ | refine Qd ?_ | refine Qe ?_ | refine Qf ?_ | refine Qg ?_ | refine Qh ?_ | refine Qi ?_ | refine Qj ?_ | refine Qk ?_ | refine Ql ?_ | refine Qm ?_ | refine Qn ?_ | refine Qo ?_ | refine Qp rfl ?_) | (first | refine Qq ?_ | refine Qr ?_) | (first | refine Qs ?_ | refine Qt ?_ | refine Qu ?_) | (first | refine Qv ?_ | refine Qw ?_) | (first | refine Qx ?_ | refine Qy ?_) | (first | refine Qz ?_ | refine Ra ?_ | refine Rb ?_))
            refine POps_bs_a ?_
            refine POps_wr_a 2 (⟨hWk, add_w [⟨#[32, 32]⟩] (by simp)⟩) ?_
            intro o5 hW5
            repeat (first | (with_reducible first | refine Qa ?_ | refine Qb ?_ | refine Qc ?_ | refine Qd ?_ | refine Qe ?_ | refine Qf ?_ | refine Qg ?_ | refine Qh ?_ | refine Qi ?_ | refine Qj ?_ | refine Qk ?_ | refine Ql ?_ | refine Qm ?_ | refine Qn ?_ | refine Qo ?_ | refine Qp rfl ?_) | (first | refine Qq ?_ | refine Qr ?_) | (first | refine Qs ?_ | refine Qt ?_ | refine Qu ?_) | (first | refine Qv ?_ | refine Qw ?_) | (first | refine Qx ?_ | refine Qy ?_) | (first | refine Qz ?_ | refine Ra ?_ | refine Rb ?_))
            refine POps_wr_a 2 (⟨hW5, ic k hlt⟩) ?_
            intro o6 hW6
            repeat (first | (with_reducible first | refine Qa ?_ | refine Qb ?_ | refine Qc ?_ | refine Qd ?_ | refine Qe ?_ | refine Qf ?_ | refine Qg ?_ | refine Qh ?_ | refine Qi ?_ | refine Qj ?_ | refine Qk ?_ | refine Ql ?_ | refine Qm ?_ | refine Qn ?_ | refine Qo ?_ | refine Qp rfl ?_) | (first | refine Qq ?_ | refine Qr ?_) | (first | refine Qs ?_ | refine Qt ?_ | refine Qu ?_) | (first | refine Qv ?_ | refine Qw ?_) | (first | refine Qx ?_ | refine Qy ?_) | (first | refine Qz ?_ | refine Ra ?_ | refine Rb ?_))
            refine POps_bs_a ?_
            refine POps_wr_a 2 (⟨hW6, add_w [⟨#[59, 10]⟩] (by simp)⟩) ?_
            intro oz hWz
            have hin := wrap_next hlt (by omega)
            repeat (first | (with_reducible first | refine Qa ?_ | refine Qb ?_ | refine Qc ?_ | refine Qd ?_ | refine Qe ?_ | refine Qf ?_ | refine Qg ?_ | refine Qh ?_ | refine Qi ?_ | refine Qj ?_ | refine Qk ?_ | refine Ql ?_ | refine Qm ?_ | refine Qn ?_ | refine Qo ?_ | refine Qp rfl ?_) | (first | refine Qq ?_ | refine Qr ?_) | (first | refine Qs ?_ | refine Qt ?_ | refine Qu ?_) | (first | refine Qv ?_ | refine Qw ?_) | (first | refine Qx ?_ | refine Qy ?_) | (first | refine Qz ?_ | refine Ra ?_ | refine Rb ?_))
            refine ⟨(k + 1, oz), ⟨by simp only; omega, ?_⟩, by simp only; omega, ?_, ?_⟩
            · simp only [consL_take hlt]
              simpa [txts] using hWz
            · simp only
              repeat (first | exact sub_nil _ | refine sub_cons (by simp [PF.get]; rfl) (by first | rfl | (simp [hin]; done) | fail) ?_)
            · simp only [List.cons_append, List.nil_append]
              repeat (first | exact List.Sublist.refl _ | exact List.nil_sublist _ | refine List.Sublist.cons_cons _ ?_ | refine List.Sublist.cons _ ?_)
          · have hc : ¬ ((k : Int) < (co.length : Int)) := by omega
            rw [List.take_of_length_le (by omega)] at hWk
            have hW7 := hWk
            generalize o = o7 at hW7 ⊢
            clear hWk hk hlt
            repeat (first | (with_reducible first | refine Qa ?_ | refine Qb ?_ | refine Qc ?_ | refine Qd ?_ | refine Qe ?_ | refine Qf ?_ | refine Qg ?_ | refine Qh ?_ | refine Qi ?_ | refine Qj ?_ | refine Qk ?_ | refine Ql ?_ | refine Qm ?_ | refine Qn ?_ | refine Qo ?_ | refine Qp rfl ?_) | (first | refine Qq ?_ | refine Qr ?_) | (first | refine Qs ?_ | refine Qt ?_ | refine Qu ?_) | (first | refine Qv ?_ | refine Qw ?_) | (first | refine Qx ?_ | refine Qy ?_) | (first | refine Qz ?_ | refine Ra ?_ | refine Rb ?_))
            refine PW_loop (ι := Nat × (List UInt8 × Bool)) (fun k => k.1 ≤ ro.length ∧ Wr k.2 (T ++ ([114, 101, 99, 111, 114, 100] ++ [32] ++ s.toList) ++ telesL te ++ [32, 58, 32] ++ exL ty 0 ++ [32, 123, 10] ++ consL co ++ rowsL (ro.take k.1))) (fun k => [(0, .ptr i 0), (3, .ptr i0 0), (78, .d (.sl (ro.map encD))), (79, .d (.v (.int .i64 ro.length))), (80, .d (.v (.int .i64 k.1)))]) (fun k => .box i0 49 [.d (.v (.int .i64 2)), .d (.v (.int .i64 a)), .d (.v (.string s)), .d (.sl (te.map encD)), .d (.v (.int .i64 ty.kind)), .d (.v (.int .i64 ty.at)), .d (.v (.string ty.name)), .d (.v (.int .i64 ty.num)), .d (.sl (ty.sub.map encD)), .d (.sl (co.map encD)), .d (.sl (ro.map encD))] :: wrS i g 103 k.2) (fun k => ro.length - k.1) (0, o7) ⟨Nat.zero_le _, by simpa [txts, rowsL] using hW7⟩ ?_ ?_ ?_
            · repeat (first | exact sub_nil _ | refine sub_cons (by simp [PF.get]; rfl) (by first | rfl | (simp [*]; done) | fail) ?_)
            · simp only [List.cons_append, List.nil_append]
              repeat (first | exact List.Sublist.refl _ | exact List.nil_sublist _ | refine List.Sublist.cons_cons _ ?_ | refine List.Sublist.cons _ ?_)
            · rintro ⟨k, o⟩ ⟨hk, hWk⟩
              simp only at hk hWk ⊢
              clear hW7
              by_cases hlt : k < ro.length
              · have hx := get_enc hlt
                have hc : ((k : Int) < (ro.length : Int)) := by omega
                have hn : (0 : Int) ≤ (k : Int) := by omega
                repeat (first | (with_reducible first | refine Qa ?_ | refine Qb ?_ | refine Qc ?_ | refine Qd ?_ | refine Qe ?_ | refine Qf ?_ | refine Qg ?_ | refine Qh ?_ | refine Qi ?_ | refine Qj ?_ | refine Qk ?_ | refine Ql ?_ | refine Qm ?_ | refine Qn ?_ | refine Qo ?_ | refine Qp rfl ?_) | (first | refine Qq ?_ | refine Qr ?_) | (first | refine Qs ?_ | refine Qt ?_ | refine Qu ?_) | (first | refine Qv ?_ | refine Qw ?_) | (first | refine Qx ?_ | refine Qy ?_) | (first | refine Qz ?_ | refine Ra ?_ | refine Rb ?_))
                refine POps_alloc_a ?_
                intro i2 hi2
                simp only [St.freshB_box] at hi2
                repeat (first | (with_reducible first | refine Qa ?_ | refine Qb ?_ | refine Qc ?_ | refine Qd ?_ | refine Qe ?_ | refine Qf ?_ | refine Qg ?_ | refine Qh ?_ | refine Qi ?_ | refine Qj ?_ | refine Qk ?_ | refine Ql ?_ | refine Qm ?_ | refine Qn ?_ | refine Qo ?_ | refine Qp rfl ?_) | (first | refine Qq ?_ | refine Qr ?_) | (first | refine Qs ?_ | refine Qt ?_ | refine Qu ?_) | (first | refine Qv ?_ | refine Qw ?_) | (first | refine Qx ?_ | refine Qy ?_) | (first | refine Qz ?_ | refine Ra ?_ | refine Rb ?_))
                refine Rc ?_
                repeat (first | (with_reducible first | refine Qa ?_ | refine Qb ?_ | refine Qc ?_ | refine Qd ?_ | refine Qe ?_ | refine Qf ?_ | refine Qg ?_ | refine Qh ?_ | refine Qi ?_ | refine Qj ?_ | refine Qk ?_ | refine Ql ?_ | refine Qm ?_ | refine Qn ?_ | refine Qo ?_ | refine Qp rfl ?_) | (first | refine Qq ?_ | refine Qr ?_) | (first | refine Qs ?_ | refine Qt ?_ | refine Qu ?_) | (first | refine Qv ?_ | refine Qw ?_) | (first | refine Qx ?_ | refine Qy ?_) | (first | refine Qz ?_ | refine Ra ?_ | refine Rb ?_))
                refine POps_wr_a 2 (⟨hWk, ir k hlt⟩) ?_
                intro oz hWz
                have hin := wrap_next hlt (by omega)
                repeat (first | (with_reducible first | refine Qa ?_ | refine Qb ?_ | refine Qc ?_ | refine Qd ?_ | refine Qe ?_ | refine Qf ?_ | refine Qg ?_ | refine Qh ?_ | refine Qi ?_ | refine Qj ?_ | refine Qk ?_ | refine Ql ?_ | refine Qm ?_ | refine Qn ?_ | refine Qo ?_ | refine Qp rfl ?_) | (first | refine Qq ?_ | refine Qr ?_) | (first | refine Qs ?_ | refine Qt ?_ | refine Qu ?_) | (first | refine Qv ?_ | refine Qw ?_) | (first | refine Qx ?_ | refine Qy ?_) | (first | refine Qz ?_ | refine Ra ?_ | refine Rb ?_))
                refine ⟨(k + 1, oz), ⟨by simp only; omega, ?_⟩, by simp only; omega, ?_, ?_⟩
                · simp only [rowsL_take hlt]
                  simpa [txts] using hWz
                · simp only
                  repeat (first | exact sub_nil _ | refine sub_cons (by simp [PF.get]; rfl) (by first | rfl | (simp [hin]; done) | fail) ?_)
                · simp only [List.cons_append, List.nil_append]
                  repeat (first | exact List.Sublist.refl _ | exact List.nil_sublist _ | refine List.Sublist.cons_cons _ ?_ | refine List.Sublist.cons _ ?_)
              · have hc : ¬ ((k : Int) < (ro.length : Int)) := by omega
                rw [List.take_of_length_le (by omega)] at hWk
                repeat (first | (with_reducible first | refine Qa ?_ | refine Qb ?_ | refine Qc ?_ | refine Qd ?_ | refine Qe ?_ | refine Qf ?_ | refine Qg ?_ | refine Qh ?_ | refine Qi ?_ | refine Qj ?_ | refine Qk ?_ | refine Ql ?_ | refine Qm ?_ | refine Qn ?_ | refine Qo ?_ | refine Qp rfl ?_) | (first | refine Qq ?_ | refine Qr ?_) | (first | refine Qs ?_ | refine Qt ?_ | refine Qu ?_) | (first | refine Qv ?_ | refine Qw ?_) | (first | refine Qx ?_ | refine Qy ?_) | (first | refine Qz ?_ | refine Ra ?_ | refine Rb ?_))
                refine POps_bs_a ?_
                refine POps_wr_a 1 (⟨hWk, add_w [⟨#[125, 10]⟩] (by simp)⟩) ?_
                intro o8 hW8
                repeat (first | (with_reducible first | refine Qa ?_ | refine Qb ?_ | refine Qc ?_ | refine Qd ?_ | refine Qe ?_ | refine Qf ?_ | refine Qg ?_ | refine Qh ?_ | refine Qi ?_ | refine Qj ?_ | refine Qk ?_ | refine Ql ?_ | refine Qm ?_ | refine Qn ?_ | refine Qo ?_ | refine Qp rfl ?_) | (first | refine Qq ?_ | refine Qr ?_) | (first | refine Qs ?_ | refine Qt ?_ | refine Qu ?_) | (first | refine Qv ?_ | refine Qw ?_) | (first | refine Qx ?_ | refine Qy ?_) | (first | refine Qz ?_ | refine Ra ?_ | refine Rb ?_))
                refine retP_keep (by simp) (by simp only [Try.results77]; rfl) (by simp [resP]; rfl) (by repeat (first | exact List.Sublist.refl _ | exact List.nil_sublist _ | refine List.Sublist.cons_cons _ ?_ | refine List.Sublist.cons _ ?_)) ⟨rfl, o8, ?_, rfl⟩
                rw [HE.out]
                simpa [txts, kwL] using hW8
  · refine PCalls.enter Try.func77 rfl Try.ntmps77 (by simp) ?_
    simp only [argsF]
    repeat (first | (with_reducible first | refine Qa ?_ | refine Qb ?_ | refine Qc ?_ | refine Qd ?_ | refine Qe ?_ | refine Qf ?_ | refine Qg ?_ | refine Qh ?_ | refine Qi ?_ | refine Qj ?_ | refine Qk ?_ | refine Ql ?_ | refine Qm ?_ | refine Qn ?_ | refine Qo ?_ | refine Qp rfl ?_) | (first | refine Qq ?_ | refine Qr ?_) | (first | refine Qs ?_ | refine Qt ?_ | refine Qu ?_) | (first | refine Qv ?_ | refine Qw ?_) | (first | refine Qx ?_ | refine Qy ?_) | (first | refine Qz ?_ | refine Ra ?_ | refine Rb ?_))
    refine POps_box_a ?_
    intro i0 hi0
    repeat (first | (with_reducible first | refine Qa ?_ | refine Qb ?_ | refine Qc ?_ | refine Qd ?_ | refine Qe ?_ | refine Qf ?_ | refine Qg ?_ | refine Qh ?_ | refine Qi ?_ | refine Qj ?_ | refine Qk ?_ | refine Ql ?_ | refine Qm ?_ | refine Qn ?_ | refine Qo ?_ | refine Qp rfl ?_) | (first | refine Qq ?_ | refine Qr ?_) | (first | refine Qs ?_ | refine Qt ?_ | refine Qu ?_) | (first | refine Qv ?_ | refine Qw ?_) | (first | refine Qx ?_ | refine Qy ?_) | (first | refine Qz ?_ | refine Ra ?_ | refine Rb ?_))
    refine PW_drawn [(0, .a), (1, .a), (2, .a), (3, .a), (4, .a), (5, .b), (6, .a), (7, .a), (8, .b), (9, .a), (10, .e)] (by kernel_rfl) (by rfl) (by kernel_rfl) ?_
    repeat (first | (with_reducible first | refine Qa ?_ | refine Qb ?_ | refine Qc ?_ | refine Qd ?_ | refine Qe ?_ | refine Qf ?_ | refine Qg ?_ | refine Qh ?_ | refine Qi ?_ | refine Qj ?_ | refine Qk ?_ | refine Ql ?_ | refine Qm ?_ | refine Qn ?_ | refine Qo ?_ | refine Qp rfl ?_) | (first | refine Qq ?_ | refine Qr ?_) | (first | refine Qs ?_ | refine Qt ?_ | refine Qu ?_) | (first | refine Qv ?_ | refine Qw ?_) | (first | refine Qx ?_ | refine Qy ?_) | (first | refine Qz ?_ | refine Ra ?_ | refine Rb ?_))
    refine POrd_bs_a ?_
    refine POrd_wr_a 1 (⟨hW, add_w [⟨#[100, 101, 102]⟩, ⟨#[32]⟩, s] (by simp)⟩) ?_
    intro o1 hW1
    clear hW
    repeat (first | (with_reducible first | refine Qa ?_ | refine Qb ?_ | refine Qc ?_ | refine Qd ?_ | refine Qe ?_ | refine Qf ?_ | refine Qg ?_ | refine Qh ?_ | refine Qi ?_ | refine Qj ?_ | refine Qk ?_ | refine Ql ?_ | refine Qm ?_ | refine Qn ?_ | refine Qo ?_ | refine Qp rfl ?_) | (first | refine Qq ?_ | refine Qr ?_) | (first | refine Qs ?_ | refine Qt ?_ | refine Qu ?_) | (first | refine Qv ?_ | refine Qw ?_) | (first | refine Qx ?_ | refine Qy ?_) | (first | refine Qz ?_ | refine Ra ?_ | refine Rb ?_))
    refine PW_loop (ι := Nat × (List UInt8 × Bool)) (fun k => k.1 ≤ te.length ∧ Wr k.2 (T ++ ([100, 101, 102] ++ [32] ++ s.toList) ++ telesL (te.take k.1))) (fun k => [(0, .ptr i 0), (3, .ptr i0 0), (22, .d (.sl (te.map encD))), (23, .d (.v (.int .i64 te.length))), (24, .d (.v (.int .i64 k.1)))]) (fun k => .box i0 49 [.d (.v (.int .i64 3)), .d (.v (.int .i64 a)), .d (.v (.string s)), .d (.sl (te.map encD)), .d (.v (.int .i64 ty.kind)), .d (.v (.int .i64 ty.at)), .d (.v (.string ty.name)), .d (.v (.int .i64 ty.num)), .d (.sl (ty.sub.map encD)), .d (.sl (co.map encD)), .d (.sl (ro.map encD))] :: wrS i g 103 k.2) (fun k => te.length - k.1) (0, o1) ⟨Nat.zero_le _, by simpa [txts, telesL] using hW1⟩ ?_ ?_ ?_
    · repeat (first | exact sub_nil _ | refine sub_cons (by simp [PF.get]; rfl) (by first | rfl | (simp [*]; done) | fail) ?_)
    · simp only [List.cons_append, List.nil_append]
      repeat (first | exact List.Sublist.refl _ | exact List.nil_sublist _ | refine List.Sublist.cons_cons _ ?_ | refine List.Sublist.cons _ ?_)
    · rintro ⟨k, o⟩ ⟨hk, hWk⟩
      simp only at hk hWk ⊢
      clear hW1
      by_cases hlt : k < te.length
      · have hx := get_enc hlt
        have hc : ((k : Int) < (te.length : Int)) := by omega
        have hn : (0 : Int) ≤ (k : Int) := by omega
        repeat (first | (with_reducible first | refine Qa ?_ | refine Qb ?_ | refine Qc ?_ | refine Qd ?_ | refine Qe ?_ | refine Qf ?_ | refine Qg ?_ | refine Qh ?_ | refine Qi ?_ | refine Qj ?_ | refine Qk ?_ | refine Ql ?_ | refine Qm ?_ | refine Qn ?_ | refine Qo ?_ | refine Qp rfl ?_) | (first | refine Qq ?_ | refine Qr ?_) | (first | refine Qs ?_ | refine Qt ?_ | refine Qu ?_) | (first | refine Qv ?_ | refine Qw ?_) | (first | refine Qx ?_ | refine Qy ?_) | (first | refine Qz ?_ | refine Ra ?_ | refine Rb ?_))
        refine POps_alloc_a ?_
        intro i2 hi2
        simp only [St.freshB_box] at hi2
        repeat (first | (with_reducible first | refine Qa ?_ | refine Qb ?_ | refine Qc ?_ | refine Qd ?_ | refine Qe ?_ | refine Qf ?_ | refine Qg ?_ | refine Qh ?_ | refine Qi ?_ | refine Qj ?_ | refine Qk ?_ | refine Ql ?_ | refine Qm ?_ | refine Qn ?_ | refine Qo ?_ | refine Qp rfl ?_) | (first | refine Qq ?_ | refine Qr ?_) | (first | refine Qs ?_ | refine Qt ?_ | refine Qu ?_) | (first | refine Qv ?_ | refine Qw ?_) | (first | refine Qx ?_ | refine Qy ?_) | (first | refine Qz ?_ | refine Ra ?_ | refine Rb ?_))
        refine Rc ?_
        repeat (first | (with_reducible first | refine Qa ?_ | refine Qb ?_ | refine Qc ?_ | refine Qd ?_ | refine Qe ?_ | refine Qf ?_ | refine Qg ?_ | refine Qh ?_ | refine Qi ?_ | refine Qj ?_ | refine Qk ?_ | refine Ql ?_ | refine Qm ?_ | refine Qn ?_ | refine Qo ?_ | refine Qp rfl ?_) | (first | refine Qq ?_ | refine Qr ?_) | (first | refine Qs ?_ | refine Qt ?_ | refine Qu ?_) | (first | refine Qv ?_ | refine Qw ?_) | (first | refine Qx ?_ | refine Qy ?_) | (first | refine Qz ?_ | refine Ra ?_ | refine Rb ?_))
        refine POps_bs_a ?_
        refine POps_wr_a 2 (⟨hWk, add_w [⟨#[32, 40]⟩] (by simp)⟩) ?_
        intro o5 hW5
        repeat (first | (with_reducible first | refine Qa ?_ | refine Qb ?_ | refine Qc ?_ | refine Qd ?_ | refine Qe ?_ | refine Qf ?_ | refine Qg ?_ | refine Qh ?_ | refine Qi ?_ | refine Qj ?_ | refine Qk ?_ | refine Ql ?_ | refine Qm ?_ | refine Qn ?_ | refine Qo ?_ | refine Qp rfl ?_) | (first | refine Qq ?_ | refine Qr ?_) | (first | refine Qs ?_ | refine Qt ?_ | refine Qu ?_) | (first | refine Qv ?_ | refine Qw ?_) | (first | refine Qx ?_ | refine Qy ?_) | (first | refine Qz ?_ | refine Ra ?_ | refine Rb ?_))
        refine POps_wr_a 2 (⟨hW5, it k hlt⟩) ?_
        intro o6 hW6
        repeat (first | (with_reducible first | refine Qa ?_ | refine Qb ?_ | refine Qc ?_ | refine Qd ?_ | refine Qe ?_ | refine Qf ?_ | refine Qg ?_ | refine Qh ?_ | refine Qi ?_ | refine Qj ?_ | refine Qk ?_ | refine Ql ?_ | refine Qm ?_ | refine Qn ?_ | refine Qo ?_ | refine Qp rfl ?_) | (first | refine Qq ?_ | refine Qr ?_) | (first | refine Qs ?_ | refine Qt ?_ | refine Qu ?_) | (first | refine Qv ?_ | refine Qw ?_) | (first | refine Qx ?_ | refine Qy ?_) | (first | refine Qz ?_ | refine Ra ?_ | refine Rb ?_))
        refine POps_bs_a ?_
        refine POps_wr_a 2 (⟨hW6, add_w [⟨#[41]⟩] (by simp)⟩) ?_
        intro oz hWz
        have hin := wrap_next hlt (by omega)
        repeat (first | (with_reducible first | refine Qa ?_ | refine Qb ?_ | refine Qc ?_ | refine Qd ?_ | refine Qe ?_ | refine Qf ?_ | refine Qg ?_ | refine Qh ?_ | refine Qi ?_ | refine Qj ?_ | refine Qk ?_ | refine Ql ?_ | refine Qm ?_ | refine Qn ?_ | refine Qo ?_ | refine Qp rfl ?_) | (first | refine Qq ?_ | refine Qr ?_) | (first | refine Qs ?_ | refine Qt ?_ | refine Qu ?_) | (first | refine Qv ?_ | refine Qw ?_) | (first | refine Qx ?_ | refine Qy ?_) | (first | refine Qz ?_ | refine Ra ?_ | refine Rb ?_))
        refine ⟨(k + 1, oz), ⟨by simp only; omega, ?_⟩, by simp only; omega, ?_, ?_⟩
        · simp only [telesL_take hlt]
          simpa [txts] using hWz
        · simp only
          repeat (first | exact sub_nil _ | refine sub_cons (by simp [PF.get]; rfl) (by first | rfl | (simp [hin]; done) | fail) ?_)
        · simp only [List.cons_append, List.nil_append]
          repeat (first | exact List.Sublist.refl _ | exact List.nil_sublist _ | refine List.Sublist.cons_cons _ ?_ | refine List.Sublist.cons _ ?_)
      · have hc : ¬ ((k : Int) < (te.length : Int)) := by omega
        rw [List.take_of_length_le (by omega)] at hWk
        repeat (first | (with_reducible first | refine Qa ?_ | refine Qb ?_ | refine Qc ?_ | refine Qd ?_ | refine Qe ?_ | refine Qf ?_ | refine Qg ?_ | refine Qh ?_ | refine Qi ?_ | refine Qj ?_ | refine Qk ?_ | refine Ql ?_ | refine Qm ?_ | refine Qn ?_ | refine Qo ?_ | refine Qp rfl ?_) | (first | refine Qq ?_ | refine Qr ?_) | (first | refine Qs ?_ | refine Qt ?_ | refine Qu ?_) | (first | refine Qv ?_ | refine Qw ?_) | (first | refine Qx ?_ | refine Qy ?_) | (first | refine Qz ?_ | refine Ra ?_ | refine Rb ?_))
        refine POps_bs_a ?_
        refine POps_wr_a 1 (⟨hWk, add_w [⟨#[32, 58, 32]⟩] (by simp)⟩) ?_
        intro o2 hW2
        repeat (first | (with_reducible first | refine Qa ?_ | refine Qb ?_ | refine Qc ?_ | refine Qd ?_ | refine Qe ?_ | refine Qf ?_ | refine Qg ?_ | refine Qh ?_ | refine Qi ?_ | refine Qj ?_ | refine Qk ?_ | refine Ql ?_ | refine Qm ?_ | refine Qn ?_ | refine Qo ?_ | refine Qp rfl ?_) | (first | refine Qq ?_ | refine Qr ?_) | (first | refine Qs ?_ | refine Qt ?_ | refine Qu ?_) | (first | refine Qv ?_ | refine Qw ?_) | (first | refine Qx ?_ | refine Qy ?_) | (first | refine Qz ?_ | refine Ra ?_ | refine Rb ?_))
        refine POps_wr_a 1 (⟨hW2, hw⟩) ?_
        intro o3 hW3
        repeat (first | (with_reducible first | refine Qa ?_ | refine Qb ?_ | refine Qc ?_ | refine Qd ?_ | refine Qe ?_ | refine Qf ?_ | refine Qg ?_ | refine Qh ?_ | refine Qi ?_ | refine Qj ?_ | refine Qk ?_ | refine Ql ?_ | refine Qm ?_ | refine Qn ?_ | refine Qo ?_ | refine Qp rfl ?_) | (first | refine Qq ?_ | refine Qr ?_) | (first | refine Qs ?_ | refine Qt ?_ | refine Qu ?_) | (first | refine Qv ?_ | refine Qw ?_) | (first | refine Qx ?_ | refine Qy ?_) | (first | refine Qz ?_ | refine Ra ?_ | refine Rb ?_))
        refine POps_bs_a ?_
        refine POps_wr_a 1 (⟨hW3, add_w [⟨#[32, 123, 10]⟩] (by simp)⟩) ?_
        intro o4 hW4
        clear hWk hW2 hW3 hk hlt
        repeat (first | (with_reducible first | refine Qa ?_ | refine Qb ?_ | refine Qc ?_ | refine Qd ?_ | refine Qe ?_ | refine Qf ?_ | refine Qg ?_ | refine Qh ?_ | refine Qi ?_ | refine Qj ?_ | refine Qk ?_ | refine Ql ?_ | refine Qm ?_ | refine Qn ?_ | refine Qo ?_ | refine Qp rfl ?_) | (first | refine Qq ?_ | refine Qr ?_) | (first | refine Qs ?_ | refine Qt ?_ | refine Qu ?_) | (first | refine Qv ?_ | refine Qw ?_) | (first | refine Qx ?_ | refine Qy ?_) | (first | refine Qz ?_ | refine Ra ?_ | refine Rb ?_))
        refine PW_loop (ι := Nat × (List UInt8 × Bool)) (fun k => k.1 ≤ co.length ∧ Wr k.2 (T ++ ([100, 101, 102] ++ [32] ++ s.toList) ++ telesL te ++ [32, 58, 32] ++ exL ty 0 ++ [32, 123, 10] ++ consL (co.take k.1))) (fun k => [(0, .ptr i 0), (3, .ptr i0 0), (57, .d (.sl (co.map encD))), (58, .d (.v (.int .i64 co.length))), (59, .d (.v (.int .i64 k.1)))]) (fun k => .box i0 49 [.d (.v (.int .i64 3)), .d (.v (.int .i64 a)), .d (.v (.string s)), .d (.sl (te.map encD)), .d (.v (.int .i64 ty.kind)), .d (.v (.int .i64 ty.at)), .d (.v (.string ty.name)), .d (.v (.int .i64 ty.num)), .d (.sl (ty.sub.map encD)), .d (.sl (co.map encD)), .d (.sl (ro.map encD))] :: wrS i g 103 k.2) (fun k => co.length - k.1) (0, o4) ⟨Nat.zero_le _, by simpa [txts, consL] using hW4⟩ ?_ ?_ ?_
        · repeat (first | exact sub_nil _ | refine sub_cons (by simp [PF.get]; rfl) (by first | rfl | (simp [*]; done) | fail) ?_)
        · simp only [List.cons_append, List.nil_append]
          repeat (first | exact List.Sublist.refl _ | exact List.nil_sublist _ | refine List.Sublist.cons_cons _ ?_ | refine List.Sublist.cons _ ?_)
        · rintro ⟨k, o⟩ ⟨hk, hWk⟩
          simp only at hk hWk ⊢
          clear hW4
          by_cases hlt : k < co.length
          · have hx := get_enc hlt
            have hc : ((k : Int) < (co.length : Int)) := by omega
            have hn : (0 : Int) ≤ (k : Int) := by omega
            repeat (first | (with_reducible first | refine Qa ?_ | refine Qb ?_ | refine Qc ?_ | refine Qd ?_ | refine Qe ?_ | refine Qf ?_ | refine Qg ?_ | refine Qh ?_ | refine Qi ?_ | refine Qj ?_ | refine Qk ?_ | refine Ql ?_ | refine Qm ?_ | refine Qn ?_ | refine Qo ?_ | refine Qp rfl ?_) | (first | refine Qq ?_ | refine Qr ?_) | (first | refine Qs ?_ | refine Qt ?_ | refine Qu ?_) | (first | refine Qv ?_ | refine Qw ?_) | (first | refine Qx ?_ | refine Qy ?_) | (first | refine Qz ?_ | refine Ra ?_ | refine Rb ?_))
            refine POps_alloc_a ?_
            intro i2 hi2
            simp only [St.freshB_box] at hi2
            repeat (first | (with_reducible first | refine Qa ?_ | refine Qb ?_ | refine Qc ?_ | refine Qd ?_ | refine Qe ?_ | refine Qf ?_ | refine Qg ?_ | refine Qh ?_ | refine Qi ?_ | refine Qj ?_ | refine Qk ?_ | refine Ql ?_ | refine Qm ?_ | refine Qn ?_ | refine Qo ?_ | refine Qp rfl ?_) | (first | refine Qq ?_ | refine Qr ?_) | (first | refine Qs ?_ | refine Qt ?_ | refine Qu ?_) | (first | refine Qv ?_ | refine Qw ?_) | (first | refine Qx ?_ | refine Qy ?_) | (first | refine Qz ?_ | refine Ra ?_ | refine Rb ?_))
            refine Rc ?_
            repeat (first | (with_reducible first | refine Qa ?_ | refine Qb ?_ | refine Qc ?_ | refine Qd ?_ | refine Qe ?_ | refine Qf ?_ | refine Qg ?_ | refine Qh ?_ | refine Qi ?_ | refine Qj ?_ | refine Qk ?_ | refine Ql ?_ | refine Qm ?_ | refine Qn ?_ | refine Qo ?_ | refine Qp rfl ?_) | (first | refine Qq ?_ | refine Qr ?_) | (first | refine Qs ?_ | refine Qt ?_ | refine Qu ?_) | (first | refine Qv ?_ | refine Qw ?_) | (first | refine Qx ?_ | refine Qy ?_) | (first | refine Qz ?_ | refine Ra ?_ | refine Rb ?_))
            refine POps_bs_a ?_
            refine POps_wr_a 2 (⟨hWk, add_w [⟨#[32, 32]⟩] (by simp)⟩) ?_
            intro o5 hW5
            repeat (first | (with_reducible first | refine Qa ?_ | refine Qb ?_ | refine Qc ?_ | refine Qd ?_ | refine Qe ?_ | refine Qf ?_ | refine Qg ?_ | refine Qh ?_ | refine Qi ?_ | refine Qj ?_ | refine Qk ?_ | refine Ql ?_ | refine Qm ?_ | refine Qn ?_ | refine Qo ?_ | refine Qp rfl ?_) | (first | refine Qq ?_ | refine Qr ?_) | (first | refine Qs ?_ | refine Qt ?_ | refine Qu ?_) | (first | refine Qv ?_ | refine Qw ?_) | (first | refine Qx ?_ | refine Qy ?_) | (first | refine Qz ?_ | refine Ra ?_ | refine Rb ?_))
            refine POps_wr_a 2 (⟨hW5, ic k hlt⟩) ?_
            intro o6 hW6
            repeat (first | (with_reducible first | refine Qa ?_ | refine Qb ?_ | refine Qc ?_ | refine Qd ?_ | refine Qe ?_ | refine Qf ?_ | refine Qg ?_ | refine Qh ?_ | refine Qi ?_ | refine Qj ?_ | refine Qk ?_ | refine Ql ?_ | refine Qm ?_ | refine Qn ?_ | refine Qo ?_ | refine Qp rfl ?_) | (first | refine Qq ?_ | refine Qr ?_) | (first | refine Qs ?_ | refine Qt ?_ | refine Qu ?_) | (first | refine Qv ?_ | refine Qw ?_) | (first | refine Qx ?_ | refine Qy ?_) | (first | refine Qz ?_ | refine Ra ?_ | refine Rb ?_))
            refine POps_bs_a ?_
            refine POps_wr_a 2 (⟨hW6, add_w [⟨#[59, 10]⟩] (by simp)⟩) ?_
            intro oz hWz
            have hin := wrap_next hlt (by omega)
            repeat (first | (with_reducible first | refine Qa ?_ | refine Qb ?_ | refine Qc ?_ | refine Qd ?_ | refine Qe ?_ | refine Qf ?_ | refine Qg ?_ | refine Qh ?_ | refine Qi ?_ | refine Qj ?_ | refine Qk ?_ | refine Ql ?_ | refine Qm ?_ | refine Qn ?_ | refine Qo ?_ | refine Qp rfl ?_) | (first | refine Qq ?_ | refine Qr ?_) | (first | refine Qs ?_ | refine Qt ?_ | refine Qu ?_) | (first | refine Qv ?_ | refine Qw ?_) | (first | refine Qx ?_ | refine Qy ?_) | (first | refine Qz ?_ | refine Ra ?_ | refine Rb ?_))
            refine ⟨(k + 1, oz), ⟨by simp only; omega, ?_⟩, by simp only; omega, ?_, ?_⟩
            · simp only [consL_take hlt]
              simpa [txts] using hWz
            · simp only
              repeat (first | exact sub_nil _ | refine sub_cons (by simp [PF.get]; rfl) (by first | rfl | (simp [hin]; done) | fail) ?_)
            · simp only [List.cons_append, List.nil_append]
              repeat (first | exact List.Sublist.refl _ | exact List.nil_sublist _ | refine List.Sublist.cons_cons _ ?_ | refine List.Sublist.cons _ ?_)
          · have hc : ¬ ((k : Int) < (co.length : Int)) := by omega
            rw [List.take_of_length_le (by omega)] at hWk
            have hW7 := hWk
            generalize o = o7 at hW7 ⊢
            clear hWk hk hlt
            repeat (first | (with_reducible first | refine Qa ?_ | refine Qb ?_ | refine Qc ?_ | refine Qd ?_ | refine Qe ?_ | refine Qf ?_ | refine Qg ?_ | refine Qh ?_ | refine Qi ?_ | refine Qj ?_ | refine Qk ?_ | refine Ql ?_ | refine Qm ?_ | refine Qn ?_ | refine Qo ?_ | refine Qp rfl ?_) | (first | refine Qq ?_ | refine Qr ?_) | (first | refine Qs ?_ | refine Qt ?_ | refine Qu ?_) | (first | refine Qv ?_ | refine Qw ?_) | (first | refine Qx ?_ | refine Qy ?_) | (first | refine Qz ?_ | refine Ra ?_ | refine Rb ?_))
            refine PW_loop (ι := Nat × (List UInt8 × Bool)) (fun k => k.1 ≤ ro.length ∧ Wr k.2 (T ++ ([100, 101, 102] ++ [32] ++ s.toList) ++ telesL te ++ [32, 58, 32] ++ exL ty 0 ++ [32, 123, 10] ++ consL co ++ rowsL (ro.take k.1))) (fun k => [(0, .ptr i 0), (3, .ptr i0 0), (78, .d (.sl (ro.map encD))), (79, .d (.v (.int .i64 ro.length))), (80, .d (.v (.int .i64 k.1)))]) (fun k => .box i0 49 [.d (.v (.int .i64 3)), .d (.v (.int .i64 a)), .d (.v (.string s)), .d (.sl (te.map encD)), .d (.v (.int .i64 ty.kind)), .d (.v (.int .i64 ty.at)), .d (.v (.string ty.name)), .d (.v (.int .i64 ty.num)), .d (.sl (ty.sub.map encD)), .d (.sl (co.map encD)), .d (.sl (ro.map encD))] :: wrS i g 103 k.2) (fun k => ro.length - k.1) (0, o7) ⟨Nat.zero_le _, by simpa [txts, rowsL] using hW7⟩ ?_ ?_ ?_
            · repeat (first | exact sub_nil _ | refine sub_cons (by simp [PF.get]; rfl) (by first | rfl | (simp [*]; done) | fail) ?_)
            · simp only [List.cons_append, List.nil_append]
              repeat (first | exact List.Sublist.refl _ | exact List.nil_sublist _ | refine List.Sublist.cons_cons _ ?_ | refine List.Sublist.cons _ ?_)
            · rintro ⟨k, o⟩ ⟨hk, hWk⟩
              simp only at hk hWk ⊢
              clear hW7
              by_cases hlt : k < ro.length
              · have hx := get_enc hlt
                have hc : ((k : Int) < (ro.length : Int)) := by omega
                have hn : (0 : Int) ≤ (k : Int) := by omega
                repeat (first | (with_reducible first | refine Qa ?_ | refine Qb ?_ | refine Qc ?_ | refine Qd ?_ | refine Qe ?_ | refine Qf ?_ | refine Qg ?_ | refine Qh ?_ | refine Qi ?_ | refine Qj ?_ | refine Qk ?_ | refine Ql ?_ | refine Qm ?_ | refine Qn ?_ | refine Qo ?_ | refine Qp rfl ?_) | (first | refine Qq ?_ | refine Qr ?_) | (first | refine Qs ?_ | refine Qt ?_ | refine Qu ?_) | (first | refine Qv ?_ | refine Qw ?_) | (first | refine Qx ?_ | refine Qy ?_) | (first | refine Qz ?_ | refine Ra ?_ | refine Rb ?_))
                refine POps_alloc_a ?_
                intro i2 hi2
                simp only [St.freshB_box] at hi2
                repeat (first | (with_reducible first | refine Qa ?_ | refine Qb ?_ | refine Qc ?_ | refine Qd ?_ | refine Qe ?_ | refine Qf ?_ | refine Qg ?_ | refine Qh ?_ | refine Qi ?_ | refine Qj ?_ | refine Qk ?_ | refine Ql ?_ | refine Qm ?_ | refine Qn ?_ | refine Qo ?_ | refine Qp rfl ?_) | (first | refine Qq ?_ | refine Qr ?_) | (first | refine Qs ?_ | refine Qt ?_ | refine Qu ?_) | (first | refine Qv ?_ | refine Qw ?_) | (first | refine Qx ?_ | refine Qy ?_) | (first | refine Qz ?_ | refine Ra ?_ | refine Rb ?_))
                refine Rc ?_
                repeat (first | (with_reducible first | refine Qa ?_ | refine Qb ?_ | refine Qc ?_ | refine Qd ?_ | refine Qe ?_ | refine Qf ?_ | refine Qg ?_ | refine Qh ?_ | refine Qi ?_ | refine Qj ?_ | refine Qk ?_ | refine Ql ?_ | refine Qm ?_ | refine Qn ?_ | refine Qo ?_ | refine Qp rfl ?_) | (first | refine Qq ?_ | refine Qr ?_) | (first | refine Qs ?_ | refine Qt ?_ | refine Qu ?_) | (first | refine Qv ?_ | refine Qw ?_) | (first | refine Qx ?_ | refine Qy ?_) | (first | refine Qz ?_ | refine Ra ?_ | refine Rb ?_))
                refine POps_wr_a 2 (⟨hWk, ir k hlt⟩) ?_
                intro oz hWz
                have hin := wrap_next hlt (by omega)
                repeat (first | (with_reducible first | refine Qa ?_ | refine Qb ?_ | refine Qc ?_ | refine Qd ?_ | refine Qe ?_ | refine Qf ?_ | refine Qg ?_ | refine Qh ?_ | refine Qi ?_ | refine Qj ?_ | refine Qk ?_ | refine Ql ?_ | refine Qm ?_ | refine Qn ?_ | refine Qo ?_ | refine Qp rfl ?_) | (first | refine Qq ?_ | refine Qr ?_) | (first | refine Qs ?_ | refine Qt ?_ | refine Qu ?_) | (first | refine Qv ?_ | refine Qw ?_) | (first | refine Qx ?_ | refine Qy ?_) | (first | refine Qz ?_ | refine Ra ?_ | refine Rb ?_))
                refine ⟨(k + 1, oz), ⟨by simp only; omega, ?_⟩, by simp only; omega, ?_, ?_⟩
                · simp only [rowsL_take hlt]
                  simpa [txts] using hWz
                · simp only
                  repeat (first | exact sub_nil _ | refine sub_cons (by simp [PF.get]; rfl) (by first | rfl | (simp [hin]; done) | fail) ?_)
                · simp only [List.cons_append, List.nil_append]
                  repeat (first | exact List.Sublist.refl _ | exact List.nil_sublist _ | refine List.Sublist.cons_cons _ ?_ | refine List.Sublist.cons _ ?_)
              · have hc : ¬ ((k : Int) < (ro.length : Int)) := by omega
                rw [List.take_of_length_le (by omega)] at hWk
                repeat (first | (with_reducible first | refine Qa ?_ | refine Qb ?_ | refine Qc ?_ | refine Qd ?_ | refine Qe ?_ | refine Qf ?_ | refine Qg ?_ | refine Qh ?_ | refine Qi ?_ | refine Qj ?_ | refine Qk ?_ | refine Ql ?_ | refine Qm ?_ | refine Qn ?_ | refine Qo ?_ | refine Qp rfl ?_) | (first | refine Qq ?_ | refine Qr ?_) | (first | refine Qs ?_ | refine Qt ?_ | refine Qu ?_) | (first | refine Qv ?_ | refine Qw ?_) | (first | refine Qx ?_ | refine Qy ?_) | (first | refine Qz ?_ | refine Ra ?_ | refine Rb ?_))
                refine POps_bs_a ?_
                refine POps_wr_a 1 (⟨hWk, add_w [⟨#[125, 10]⟩] (by simp)⟩) ?_
                intro o8 hW8
                repeat (first | (with_reducible first | refine Qa ?_ | refine Qb ?_ | refine Qc ?_ | refine Qd ?_ | refine Qe ?_ | refine Qf ?_ | refine Qg ?_ | refine Qh ?_ | refine Qi ?_ | refine Qj ?_ | refine Qk ?_ | refine Ql ?_ | refine Qm ?_ | refine Qn ?_ | refine Qo ?_ | refine Qp rfl ?_) | (first | refine Qq ?_ | refine Qr ?_) | (first | refine Qs ?_ | refine Qt ?_ | refine Qu ?_) | (first | refine Qv ?_ | refine Qw ?_) | (first | refine Qx ?_ | refine Qy ?_) | (first | refine Qz ?_ | refine Ra ?_ | refine Rb ?_))
                refine retP_keep (by simp) (by simp only [Try.results77]; rfl) (by simp [resP]; rfl) (by repeat (first | exact List.Sublist.refl _ | exact List.nil_sublist _ | refine List.Sublist.cons_cons _ ?_ | refine List.Sublist.cons _ ?_)) ⟨rfl, o8, ?_, rfl⟩
                rw [HE.out]
                simpa [txts, kwL] using hW8
end Go.Proofs.Ytffgfjnbgplckaa

namespace Go.Proofs.Ytffgfjnbgplckaa
open Go.RowKit
set_option maxRecDepth 100000
theorem tright6_p (d : Dc) : PCalls Try.prog 31 [aggD d] [] fun p s => p = .d (.v (.bool (rightD d))) ∧ s = [] := PCalls.flat trivial fun K w vs ha => by
  obtain ⟨v, rfl, hv⟩ := ha.one
  obtain ⟨cs, rfl, hc⟩ := rep_rel hv
  exact dright_any _ d cs w hc
def filesL : List Dc → List UInt8
  | [] => []
  | t :: ts => declL t ++ filesL ts
theorem filesL_app (a b : List Dc) : filesL (a ++ b) = filesL a ++ filesL b := by
  induction a with
  | nil => rfl
  | cons x a ih => simp only [List.cons_append, filesL, ih, List.append_assoc]
theorem filesL_take {l : List Dc} {k : Nat} (h : k < l.length) : filesL (l.take (k + 1)) = filesL (l.take k) ++ declL l[k] := by
  rw [List.take_succ_eq_append_getElem h, filesL_app]
  simp [filesL]
def fileR (l : List Dc) : PV := if l.all rightD then textP (filesL l) else .tup [.d (.v (.string ⟨#[]⟩)), .d (.v (.int .i64 5))]
set_option maxHeartbeats 8000000 in
theorem file_p (l : List Dc) (hl : l.length ≤ 1000000) : PCalls Try.prog 44 [.d (slD l)] [] fun p s => p = fileR l ∧ s = [] := by
  have HE := Lib.hid (show fileR l = if l.all rightD then textP (filesL l) else .tup [.d (.v (.string ⟨#[]⟩)), .d (.v (.int .i64 5))] from rfl)
  generalize fileR l = q at *
  simp only [slD]
  refine PCalls.enter Try.func44 rfl Try.ntmps44 (by simp) ?_
  simp only [argsF]
  repeat (first | (with_reducible first | refine Qa ?_ | refine Qb ?_ | refine Qc ?_ | refine Qd ?_ | refine Qe ?_ | refine Qf ?_ | refine Qg ?_ | refine Qh ?_ | refine Qi ?_ | refine Qj ?_ | refine Qk ?_ | refine Ql ?_ | refine Qm ?_ | refine Qn ?_ | refine Qo ?_ | refine Qp rfl ?_) | (first | refine Qq ?_ | refine Qr ?_) | (first | refine Qs ?_ | refine Qt ?_ | refine Qu ?_) | (first | refine Qv ?_ | refine Qw ?_) | (first | refine Qx ?_ | refine Qy ?_) | (first | refine Qz ?_ | refine Ra ?_ | refine Rb ?_))
  refine PW_loop (ι := Nat) (fun k => k ≤ l.length ∧ (l.take k).all rightD = true) (fun k => [(0, .d (.sl (l.map encD))), (9, .d (.sl (l.map encD))), (10, .d (.v (.int .i64 l.length))), (11, .d (.v (.int .i64 k)))]) (fun _ => []) (fun k => l.length - k) 0 ⟨Nat.zero_le _, by simp⟩ ?_ ?_ ?_
  · repeat (first | exact sub_nil _ | refine sub_cons (by simp [PF.get]; rfl) (by first | rfl | (simp [*]; done) | fail) ?_)
  · repeat (first | exact List.Sublist.refl _ | exact List.nil_sublist _ | refine List.Sublist.cons_cons _ ?_ | refine List.Sublist.cons _ ?_)
  · rintro k ⟨hk, hall⟩
    by_cases hlt : k < l.length
    · have hx := get_enc hlt
      have hc : ((k : Int) < (l.length : Int)) := by omega
      have hn : (0 : Int) ≤ (k : Int) := by omega
      have hin := wrap_next hlt (by omega)
      have HA := Lib.hid hall
      clear hall
      repeat (first | (with_reducible first | refine Qa ?_ | refine Qb ?_ | refine Qc ?_ | refine Qd ?_ | refine Qe ?_ | refine Qf ?_ | refine Qg ?_ | refine Qh ?_ | refine Qi ?_ | refine Qj ?_ | refine Qk ?_ | refine Ql ?_ | refine Qm ?_ | refine Qn ?_ | refine Qo ?_ | refine Qp rfl ?_) | (first | refine Qq ?_ | refine Qr ?_) | (first | refine Qs ?_ | refine Qt ?_ | refine Qu ?_) | (first | refine Qv ?_ | refine Qw ?_) | (first | refine Qx ?_ | refine Qy ?_) | (first | refine Qz ?_ | refine Ra ?_ | refine Rb ?_))
      refine POps_alloc_a ?_
      intro i2 hi2
      repeat (first | (with_reducible first | refine Qa ?_ | refine Qb ?_ | refine Qc ?_ | refine Qd ?_ | refine Qe ?_ | refine Qf ?_ | refine Qg ?_ | refine Qh ?_ | refine Qi ?_ | refine Qj ?_ | refine Qk ?_ | refine Ql ?_ | refine Qm ?_ | refine Qn ?_ | refine Qo ?_ | refine Qp rfl ?_) | (first | refine Qq ?_ | refine Qr ?_) | (first | refine Qs ?_ | refine Qt ?_ | refine Qu ?_) | (first | refine Qv ?_ | refine Qw ?_) | (first | refine Qx ?_ | refine Qy ?_) | (first | refine Qz ?_ | refine Ra ?_ | refine Rb ?_))
      refine Rc ?_
      repeat (first | (with_reducible first | refine Qa ?_ | refine Qb ?_ | refine Qc ?_ | refine Qd ?_ | refine Qe ?_ | refine Qf ?_ | refine Qg ?_ | refine Qh ?_ | refine Qi ?_ | refine Qj ?_ | refine Qk ?_ | refine Ql ?_ | refine Qm ?_ | refine Qn ?_ | refine Qo ?_ | refine Qp rfl ?_) | (first | refine Qq ?_ | refine Qr ?_) | (first | refine Qs ?_ | refine Qt ?_ | refine Qu ?_) | (first | refine Qv ?_ | refine Qw ?_) | (first | refine Qx ?_ | refine Qy ?_) | (first | refine Qz ?_ | refine Ra ?_ | refine Rb ?_))
      refine POps_call_a (tright6_p l[k]) ?_
      cases hr : rightD l[k] with
      | true =>
        have HR := Lib.hid hr
        clear hr
        repeat (first | (with_reducible first | refine Qa ?_ | refine Qb ?_ | refine Qc ?_ | refine Qd ?_ | refine Qe ?_ | refine Qf ?_ | refine Qg ?_ | refine Qh ?_ | refine Qi ?_ | refine Qj ?_ | refine Qk ?_ | refine Ql ?_ | refine Qm ?_ | refine Qn ?_ | refine Qo ?_ | refine Qp rfl ?_) | (first | refine Qq ?_ | refine Qr ?_) | (first | refine Qs ?_ | refine Qt ?_ | refine Qu ?_) | (first | refine Qv ?_ | refine Qw ?_) | (first | refine Qx ?_ | refine Qy ?_) | (first | refine Qz ?_ | refine Ra ?_ | refine Rb ?_))
        refine ⟨k + 1, ⟨by omega, ?_⟩, by omega, ?_, ?_⟩
        · rw [all_take_g rightD l k hlt, HA.out, HR.out]; rfl
        · repeat (first | exact sub_nil _ | refine sub_cons (by simp [PF.get]; rfl) (by first | rfl | (simp [hin]; done) | fail) ?_)
        · repeat (first | exact List.Sublist.refl _ | exact List.nil_sublist _ | refine List.Sublist.cons_cons _ ?_ | refine List.Sublist.cons _ ?_)
      | false =>
        have hno : l.all rightD = false := all_false_g k hlt hr
        rw [hno] at HE
        clear hno
        have HR := Lib.hid hr
        clear hr
        repeat (first | (with_reducible first | refine Qa ?_ | refine Qb ?_ | refine Qc ?_ | refine Qd ?_ | refine Qe ?_ | refine Qf ?_ | refine Qg ?_ | refine Qh ?_ | refine Qi ?_ | refine Qj ?_ | refine Qk ?_ | refine Ql ?_ | refine Qm ?_ | refine Qn ?_ | refine Qo ?_ | refine Qp rfl ?_) | (first | refine Qq ?_ | refine Qr ?_) | (first | refine Qs ?_ | refine Qt ?_ | refine Qu ?_) | (first | refine Qv ?_ | refine Qw ?_) | (first | refine Qx ?_ | refine Qy ?_) | (first | refine Qz ?_ | refine Ra ?_ | refine Rb ?_))
        refine retP_ok (by simp) (by simp only [Try.results44]; rfl) (by simp [resP, St.box?, PF.get, loadB, TyK.agg, *]; rfl) (List.nil_sublist _) ?_
        exact ⟨HE.out.symm, rfl⟩
    · have hc : ¬ ((k : Int) < (l.length : Int)) := by omega
      rw [List.take_of_length_le (by omega)] at hall
      rw [hall] at HE
      have hd : ∀ (k : Nat) (h : k < l.length), WC 77 [aggD l[k]] (declL l[k]) := fun k h => decl_w _ (List.all_eq_true.1 hall _ (List.getElem_mem h))
      clear hall
      repeat (first | (with_reducible first | refine Qa ?_ | refine Qb ?_ | refine Qc ?_ | refine Qd ?_ | refine Qe ?_ | refine Qf ?_ | refine Qg ?_ | refine Qh ?_ | refine Qi ?_ | refine Qj ?_ | refine Qk ?_ | refine Ql ?_ | refine Qm ?_ | refine Qn ?_ | refine Qo ?_ | refine Qp rfl ?_) | (first | refine Qq ?_ | refine Qr ?_) | (first | refine Qs ?_ | refine Qt ?_ | refine Qu ?_) | (first | refine Qv ?_ | refine Qw ?_) | (first | refine Qx ?_ | refine Qy ?_) | (first | refine Qz ?_ | refine Ra ?_ | refine Rb ?_))
      refine POps_box_a ?_
      intro i1 hi1
      (first | refine Qq ?_ | refine Qr ?_)
      refine Qh ?_
      refine Qj ?_
      refine PW_ownB i1 0 5 1 (by simp [nev, nevA, nevB, evBuild, PF.eval, PF.get, PF.wants, cPV, cCell, PV.rows, evBin, evUn, evConv, evLen, loadA, loadB, TyK.agg, partA, St.box?, St.tok?, St.setBox, St.setTok, fillO, spl, PV.ps, PV.one, evalArgs, aggD, slD, encD_nd, encD_bd, encD_rw, encD_dc, encD_str, encD_int, *]; rfl) (by rfl) (by rfl) (by intro g; simp [St.setBox, *]; rfl) (by decide) ?_
      intro g hg
      refine PW_perm (st' := wrS i1 g 103 ([], false)) (List.Perm.swap _ _ _) ?_
      repeat (first | (with_reducible first | refine Qa ?_ | refine Qb ?_ | refine Qc ?_ | refine Qd ?_ | refine Qe ?_ | refine Qf ?_ | refine Qg ?_ | refine Qh ?_ | refine Qi ?_ | refine Qj ?_ | refine Qk ?_ | refine Ql ?_ | refine Qm ?_ | refine Qn ?_ | refine Qo ?_ | refine Qp rfl ?_) | (first | refine Qq ?_ | refine Qr ?_) | (first | refine Qs ?_ | refine Qt ?_ | refine Qu ?_) | (first | refine Qv ?_ | refine Qw ?_) | (first | refine Qx ?_ | refine Qy ?_) | (first | refine Qz ?_ | refine Ra ?_ | refine Rb ?_))
      refine PW_loop (ι := Nat × (List UInt8 × Bool)) (fun k => k.1 ≤ l.length ∧ Wr k.2 (filesL (l.take k.1))) (fun k => [(6, .ptr i1 0), (21, .d (.sl (l.map encD))), (22, .d (.v (.int .i64 l.length))), (23, .d (.v (.int .i64 k.1)))]) (fun k => wrS i1 g 103 k.2) (fun k => l.length - k.1) (0, ([], false)) ⟨Nat.zero_le _, wr0⟩ ?_ ?_ ?_
      · repeat (first | exact sub_nil _ | refine sub_cons (by simp [PF.get]; rfl) (by first | rfl | (simp [*]; done) | fail) ?_)
      · repeat (first | exact List.Sublist.refl _ | exact List.nil_sublist _ | refine List.Sublist.cons_cons _ ?_ | refine List.Sublist.cons _ ?_)
      · clear hlt hc hk
        rintro ⟨k, o⟩ ⟨hk, hWk⟩
        simp only at hk hWk ⊢
        by_cases hlt : k < l.length
        · have hx := get_enc hlt
          have hc : ((k : Int) < (l.length : Int)) := by omega
          have hn : (0 : Int) ≤ (k : Int) := by omega
          have hin := wrap_next hlt (by omega)
          repeat (first | (with_reducible first | refine Qa ?_ | refine Qb ?_ | refine Qc ?_ | refine Qd ?_ | refine Qe ?_ | refine Qf ?_ | refine Qg ?_ | refine Qh ?_ | refine Qi ?_ | refine Qj ?_ | refine Qk ?_ | refine Ql ?_ | refine Qm ?_ | refine Qn ?_ | refine Qo ?_ | refine Qp rfl ?_) | (first | refine Qq ?_ | refine Qr ?_) | (first | refine Qs ?_ | refine Qt ?_ | refine Qu ?_) | (first | refine Qv ?_ | refine Qw ?_) | (first | refine Qx ?_ | refine Qy ?_) | (first | refine Qz ?_ | refine Ra ?_ | refine Rb ?_))
          refine POps_alloc_a ?_
          intro i2 hi2
          repeat (first | (with_reducible first | refine Qa ?_ | refine Qb ?_ | refine Qc ?_ | refine Qd ?_ | refine Qe ?_ | refine Qf ?_ | refine Qg ?_ | refine Qh ?_ | refine Qi ?_ | refine Qj ?_ | refine Qk ?_ | refine Ql ?_ | refine Qm ?_ | refine Qn ?_ | refine Qo ?_ | refine Qp rfl ?_) | (first | refine Qq ?_ | refine Qr ?_) | (first | refine Qs ?_ | refine Qt ?_ | refine Qu ?_) | (first | refine Qv ?_ | refine Qw ?_) | (first | refine Qx ?_ | refine Qy ?_) | (first | refine Qz ?_ | refine Ra ?_ | refine Rb ?_))
          refine Rc ?_
          repeat (first | (with_reducible first | refine Qa ?_ | refine Qb ?_ | refine Qc ?_ | refine Qd ?_ | refine Qe ?_ | refine Qf ?_ | refine Qg ?_ | refine Qh ?_ | refine Qi ?_ | refine Qj ?_ | refine Qk ?_ | refine Ql ?_ | refine Qm ?_ | refine Qn ?_ | refine Qo ?_ | refine Qp rfl ?_) | (first | refine Qq ?_ | refine Qr ?_) | (first | refine Qs ?_ | refine Qt ?_ | refine Qu ?_) | (first | refine Qv ?_ | refine Qw ?_) | (first | refine Qx ?_ | refine Qy ?_) | (first | refine Qz ?_ | refine Ra ?_ | refine Rb ?_))
          refine POps_wr_a 1 (⟨hWk, hd k hlt⟩) ?_
          intro o3 hW3
          repeat (first | (with_reducible first | refine Qa ?_ | refine Qb ?_ | refine Qc ?_ | refine Qd ?_ | refine Qe ?_ | refine Qf ?_ | refine Qg ?_ | refine Qh ?_ | refine Qi ?_ | refine Qj ?_ | refine Qk ?_ | refine Ql ?_ | refine Qm ?_ | refine Qn ?_ | refine Qo ?_ | refine Qp rfl ?_) | (first | refine Qq ?_ | refine Qr ?_) | (first | refine Qs ?_ | refine Qt ?_ | refine Qu ?_) | (first | refine Qv ?_ | refine Qw ?_) | (first | refine Qx ?_ | refine Qy ?_) | (first | refine Qz ?_ | refine Ra ?_ | refine Rb ?_))
          refine ⟨(k + 1, o3), ⟨by simp only; omega, ?_⟩, by simp only; omega, ?_, ?_⟩
          · simp only [filesL_take hlt]
            exact hW3
          · simp only
            repeat (first | exact sub_nil _ | refine sub_cons (by simp [PF.get]; rfl) (by first | rfl | (simp [hin]; done) | fail) ?_)
          · simp only [List.cons_append, List.nil_append]
            repeat (first | exact List.Sublist.refl _ | exact List.nil_sublist _ | refine List.Sublist.cons_cons _ ?_ | refine List.Sublist.cons _ ?_)
        · have hc : ¬ ((k : Int) < (l.length : Int)) := by omega
          rw [List.take_of_length_le (by omega)] at hWk
          repeat (first | (with_reducible first | refine Qa ?_ | refine Qb ?_ | refine Qc ?_ | refine Qd ?_ | refine Qe ?_ | refine Qf ?_ | refine Qg ?_ | refine Qh ?_ | refine Qi ?_ | refine Qj ?_ | refine Qk ?_ | refine Ql ?_ | refine Qm ?_ | refine Qn ?_ | refine Qo ?_ | refine Qp rfl ?_) | (first | refine Qq ?_ | refine Qr ?_) | (first | refine Qs ?_ | refine Qt ?_ | refine Qu ?_) | (first | refine Qv ?_ | refine Qw ?_) | (first | refine Qx ?_ | refine Qy ?_) | (first | refine Qz ?_ | refine Ra ?_ | refine Rb ?_))
          obtain ⟨s', e', het⟩ := textP_tup (filesL l)
          have he := end_p i1 g o _ hWk
          rw [het] at he HE
          refine POps_callS 0 (he) (by simp only [List.cons_append, List.nil_append, List.take_succ_cons, List.take_zero]; rfl) (by rfl) (by decide) rfl (by simp [nev, nevA, nevB, evBuild, PF.eval, PF.get, PF.wants, cPV, cCell, PV.rows, evBin, evUn, evConv, evLen, loadA, loadB, TyK.agg, partA, St.box?, St.tok?, St.setBox, St.setTok, fillO, spl, PV.ps, PV.one, evalArgs, aggD, slD, encD_nd, encD_bd, encD_rw, encD_dc, encD_str, encD_int, *]; rfl) (by first | (simp [PV.norm1, PV.norm0, aggD, slD, encD_nd, encD_bd, encD_rw, encD_dc, encD_str]; done) | fail) rfl ?_
          repeat (first | (with_reducible first | refine Qa ?_ | refine Qb ?_ | refine Qc ?_ | refine Qd ?_ | refine Qe ?_ | refine Qf ?_ | refine Qg ?_ | refine Qh ?_ | refine Qi ?_ | refine Qj ?_ | refine Qk ?_ | refine Ql ?_ | refine Qm ?_ | refine Qn ?_ | refine Qo ?_ | refine Qp rfl ?_) | (first | refine Qq ?_ | refine Qr ?_) | (first | refine Qs ?_ | refine Qt ?_ | refine Qu ?_) | (first | refine Qv ?_ | refine Qw ?_) | (first | refine Qx ?_ | refine Qy ?_) | (first | refine Qz ?_ | refine Ra ?_ | refine Rb ?_))
          refine retP_ok (by simp) (by simp only [Try.results44]; rfl) (by simp [resP, St.box?, PF.get, loadB, TyK.agg, *]; rfl) (List.nil_sublist _) ?_
          exact ⟨HE.out.symm, rfl⟩
theorem pdecl_p (d : Dc) : PCalls Try.prog 46 [aggD d] [] fun p s => p = fileR [d] ∧ s = [] := by
  have hf := file_p [d] (by simp)
  have hs : ∃ s e, fileR [d] = .tup [.d (.v (.string s)), .d (.v (.int .i64 e))] := by
    unfold fileR
    split
    · exact textP_tup _
    · exact ⟨_, _, rfl⟩
  obtain ⟨s', e', he⟩ := hs
  rw [he] at hf ⊢
  simp only [aggD, encD_dc, List.map_cons, List.map_nil]
  refine PCalls.enter Try.func46 rfl Try.ntmps46 (by simp) ?_
  simp only [argsF]
  repeat (first | (with_reducible first | refine Qa ?_ | refine Qb ?_ | refine Qc ?_ | refine Qd ?_ | refine Qe ?_ | refine Qf ?_ | refine Qg ?_ | refine Qh ?_ | refine Qi ?_ | refine Qj ?_ | refine Qk ?_ | refine Ql ?_ | refine Qm ?_ | refine Qn ?_ | refine Qo ?_ | refine Qp rfl ?_) | (first | refine Qq ?_ | refine Qr ?_) | (first | refine Qs ?_ | refine Qt ?_ | refine Qu ?_) | (first | refine Qv ?_ | refine Qw ?_) | (first | refine Qx ?_ | refine Qy ?_) | (first | refine Qz ?_ | refine Ra ?_ | refine Rb ?_))
  refine POps_box_a ?_
  intro i0 hi0
  repeat (first | (with_reducible first | refine Qa ?_ | refine Qb ?_ | refine Qc ?_ | refine Qd ?_ | refine Qe ?_ | refine Qf ?_ | refine Qg ?_ | refine Qh ?_ | refine Qi ?_ | refine Qj ?_ | refine Qk ?_ | refine Ql ?_ | refine Qm ?_ | refine Qn ?_ | refine Qo ?_ | refine Qp rfl ?_) | (first | refine Qq ?_ | refine Qr ?_) | (first | refine Qs ?_ | refine Qt ?_ | refine Qu ?_) | (first | refine Qv ?_ | refine Qw ?_) | (first | refine Qx ?_ | refine Qy ?_) | (first | refine Qz ?_ | refine Ra ?_ | refine Rb ?_))
  refine POps_bs_a ?_
  refine POps_call_a (hf) ?_
  repeat (first | (with_reducible first | refine Qa ?_ | refine Qb ?_ | refine Qc ?_ | refine Qd ?_ | refine Qe ?_ | refine Qf ?_ | refine Qg ?_ | refine Qh ?_ | refine Qi ?_ | refine Qj ?_ | refine Qk ?_ | refine Ql ?_ | refine Qm ?_ | refine Qn ?_ | refine Qo ?_ | refine Qp rfl ?_) | (first | refine Qq ?_ | refine Qr ?_) | (first | refine Qs ?_ | refine Qt ?_ | refine Qu ?_) | (first | refine Qv ?_ | refine Qw ?_) | (first | refine Qx ?_ | refine Qy ?_) | (first | refine Qz ?_ | refine Ra ?_ | refine Rb ?_))
  refine retP_ok (by simp) (by simp only [Try.results46]; rfl) (by simp [resP, St.box?, PF.get, loadB, TyK.agg, *]; rfl) (List.nil_sublist _) ?_
  exact ⟨rfl, rfl⟩
end Go.Proofs.Ytffgfjnbgplckaa

namespace Go.Proofs.Ytffgfjnbgplckaa
open Go.RowKit
set_option maxRecDepth 100000
theorem rightN_len {s : ByteArray} (hr : rightN s = true) : s.toList.length ≤ 40 := by
  unfold rightN at hr
  simp only [Bool.and_eq_true, decide_eq_true_eq] at hr
  rw [size_toList]
  omega
theorem exprB_len {t : Nd} (h : exprB t = true) : (exL t 0).length ≤ 491520 := by
  have h1 := ex_len (exprB_good h) 0
  have h2 := small_nd (exprB_small h)
  omega
theorem patB_len {t : Nd} (h : patB t = true) : (patL t).length ≤ 491520 := by
  have h1 := pat_len _ t (Nat.le_refl _) (patB_good h)
  have h2 := small_nd (patB_small h)
  omega
theorem bd_len {b : Bd} (h : bindB b = true) : b.name.toList.length ≤ 40 ∧ (exL b.ty 0).length ≤ 491520 ∧ (bdL b).length ≤ 491563 := by
  unfold bindB at h
  simp only [Bool.and_eq_true] at h
  have h1 := rightN_len h.1
  have h2 := exprB_len h.2
  refine ⟨h1, h2, ?_⟩
  unfold bdL
  simp only [List.length_append, List.length_cons, List.length_nil]; omega
theorem teles_len : ∀ (l : List Bd), (∀ b ∈ l, bindB b = true) → (telesL l).length ≤ 500000 * l.length
  | [], _ => by simp [telesL]
  | t :: ts, h => by
    have h1 := bd_len (h t (by simp))
    have h2 := teles_len ts fun x hx => h x (by simp [hx])
    simp only [telesL, List.length_append, List.length_cons, List.length_nil]; omega
theorem cons_len : ∀ (l : List Bd), (∀ b ∈ l, bindB b = true) → (consL l).length ≤ 500000 * l.length
  | [], _ => by simp [consL]
  | t :: ts, h => by
    have h1 := bd_len (h t (by simp))
    have h2 := cons_len ts fun x hx => h x (by simp [hx])
    simp only [consL, List.length_append, List.length_cons, List.length_nil]; omega
theorem patsW_len : ∀ (l : List Nd), (∀ b ∈ l, patB b = true) → (patsW l).length ≤ 500000 * l.length
  | [], _ => by simp [patsW]
  | t :: ts, h => by
    have h1 := patB_len (h t (by simp))
    have h2 := patsW_len ts fun x hx => h x (by simp [hx])
    simp only [patsW, List.length_append, List.length_cons, List.length_nil]; omega
theorem row_len {r : Rw} (h : rowB r = true) : (rowL r).length ≤ 13000000 := by
  unfold rowB at h
  simp only [Bool.and_eq_true, decide_eq_true_eq] at h
  obtain ⟨⟨h1, h2⟩, h3⟩ := h
  have h4 := patsW_len r.pats fun b hb => List.all_eq_true.1 h2 b hb
  unfold rowL
  split
  · rename_i hh
    rw [if_pos hh] at h3
    have := exprB_len h3
    simp only [List.length_append, List.length_cons, List.length_nil]; omega
  · simp only [List.length_append, List.length_cons, List.length_nil]; omega
theorem rows_len : ∀ (l : List Rw), (∀ b ∈ l, rowB b = true) → (rowsL l).length ≤ 13000000 * l.length
  | [], _ => by simp [rowsL]
  | t :: ts, h => by
    have h1 := row_len (h t (by simp))
    have h2 := rows_len ts fun x hx => h x (by simp [hx])
    simp only [rowsL, List.length_append, List.length_cons]; omega
theorem take_mem {α : Type} {l : List α} {k : Nat} {p : α → Bool} (h : ∀ b ∈ l, p b = true) : ∀ b ∈ l.take k, p b = true := fun b hb => h b (List.mem_of_mem_take hb)
theorem rexB {t : Nd} (h : exprB t = true) : RxC t 0 := rex_w _ t (Nat.le_refl _) (exprB_good h) (by have := small_nd (exprB_small h); omega) 0 (by omega)
theorem rpatB {t : Nd} (h : patB t = true) : RpC t := rpat_w _ t (Nat.le_refl _) (patB_good h) (by have := small_nd (patB_small h); omega)
end Go.Proofs.Ytffgfjnbgplckaa

namespace Go.Proofs.Ytffgfjnbgplckaa
open Go.RowKit
set_option maxRecDepth 100000
def RdC (d : Dc) : Prop := PCalls Try.prog 78 [aggD d] [] fun p s => p = .d (.v (.string (strB (declL d)))) ∧ s = []
set_option maxHeartbeats 16000000 in
theorem rdecl6_p (d : Dc) (h : rightD d = true) : RdC d := by
  unfold RdC
  obtain ⟨kd, a, s, te, ty, co, ro⟩ := d
  unfold rightD at h
  simp only [Bool.and_eq_true, decide_eq_true_eq] at h
  obtain ⟨⟨⟨⟨⟨⟨⟨⟨hk, hn⟩, hty⟩, hte⟩, hco⟩, -⟩, -⟩, hrl⟩, hro⟩ := h
  unfold bindsB at hte hco
  simp only [Bool.and_eq_true, decide_eq_true_eq] at hte hco
  obtain ⟨htl, hte⟩ := hte
  obtain ⟨hcl, hco⟩ := hco
  have hte := fun b hb => List.all_eq_true.1 hte b hb
  have hco := fun b hb => List.all_eq_true.1 hco b hb
  have hro := fun b hb => List.all_eq_true.1 hro b hb
  have lt := fun k => teles_len (te.take k) (take_mem hte)
  have lc := fun k => cons_len (co.take k) (take_mem hco)
  have lr := fun k => rows_len (ro.take k) (take_mem hro)
  have ltl : ∀ k, (te.take k).length ≤ 24 := fun k => by rw [List.length_take]; omega
  have lcl : ∀ k, (co.take k).length ≤ 16 := fun k => by rw [List.length_take]; omega
  have lrl : ∀ k, (ro.take k).length ≤ 32 := fun k => by rw [List.length_take]; omega
  have et : ∀ (k : Nat) (h : k < te.length), RxC te[k].ty 0 ∧ te[k].name.toList.length ≤ 40 ∧ (exL te[k].ty 0).length ≤ 491520 := fun k h => by
    have hb := hte _ (List.getElem_mem h)
    have := bd_len hb
    unfold bindB at hb; simp only [Bool.and_eq_true] at hb
    exact ⟨rexB hb.2, this.1, this.2.1⟩
  have ec : ∀ (k : Nat) (h : k < co.length), RxC co[k].ty 0 ∧ co[k].name.toList.length ≤ 40 ∧ (exL co[k].ty 0).length ≤ 491520 := fun k h => by
    have hb := hco _ (List.getElem_mem h)
    have := bd_len hb
    unfold bindB at hb; simp only [Bool.and_eq_true] at hb
    exact ⟨rexB hb.2, this.1, this.2.1⟩
  have er : ∀ (k : Nat) (h : k < ro.length), rowB ro[k] = true := fun k h => hro _ (List.getElem_mem h)
  have hx := rexB hty
  unfold RxC at hx
  have hxl := exprB_len hty
  have hnl := rightN_len hn
  have HE := Lib.hid (show declL (.mk kd a s te ty co ro) = (kwL kd ++ [32]) ++ s.toList ++ telesL te ++ [32, 58, 32] ++ exL ty 0 ++ [32, 123, 10] ++ consL co ++ rowsL ro ++ [125, 10] from rfl)
  generalize declL (.mk kd a s te ty co ro) = txt at *
  have hrow : ([[.v (.string ⟨#[]⟩)], [.v (.string ⟨#[100, 97, 116, 97, 32]⟩)], [.v (.string ⟨#[114, 101, 99, 111, 114, 100, 32]⟩)], [.v (.string ⟨#[100, 101, 102, 32]⟩)]] : List (List D))[kd.toNat]? = some [.v (.string (strB (kwL kd ++ [32])))] := by
    rcases (show kd = 1 ∨ kd = 2 ∨ kd = 3 by omega) with rfl | rfl | rfl <;> rfl
  have hkl : (kwL kd ++ [32]).length ≤ 10 := by
    rcases (show kd = 1 ∨ kd = 2 ∨ kd = 3 by omega) with rfl | rfl | rfl <;> decide
  have hk0 : (0 : Int) ≤ kd := by omega
  generalize kwL kd ++ [32] = kw at *
  clear hte hco hro hn hty hk
  have LT := Lib.hid (fun k => (show (telesL (te.take k)).length ≤ 12000000 by have := lt k; have := ltl k; omega))
  have LC := Lib.hid (fun k => (show (consL (co.take k)).length ≤ 8000000 by have := lc k; have := lcl k; omega))
  have LR := Lib.hid (fun k => (show (rowsL (ro.take k)).length ≤ 416000000 by have := lr k; have := lrl k; omega))
  have ET := Lib.hid et
  have EC := Lib.hid ec
  have ER := Lib.hid er
  clear lt lc lr ltl lcl lrl et ec er
  simp only [aggD, encD_dcmk, List.map_cons, List.map_nil]
  refine PCalls.enter Try.func78 rfl Try.ntmps78 (by simp) ?_
  simp only [argsF]
  repeat (first | (with_reducible first | refine Qa ?_ | refine Qb ?_ | refine Qc ?_ | refine Qd ?_ | refine Qe ?_ | refine Qf ?_ | refine Qg ?_ | refine Qh ?_ | refine Qi ?_ | refine Qj ?_ | refine Qk ?_ | refine Ql ?_ | refine Qm ?_ | refine Qn ?_ | refine Qo ?_ | refine Qp rfl ?_) | (first | refine Qq ?_ | refine Qr ?_) | (first | refine Qs ?_ | refine Qt ?_ | refine Qu ?_) | (first | refine Qv ?_ | refine Qw ?_) | (first | refine Qx ?_ | refine Qy ?_) | (first | refine Qz ?_ | refine Ra ?_ | refine Rb ?_))
  refine POps_box_a ?_
  intro i0 hi0
  repeat (first | (with_reducible first | refine Qa ?_ | refine Qb ?_ | refine Qc ?_ | refine Qd ?_ | refine Qe ?_ | refine Qf ?_ | refine Qg ?_ | refine Qh ?_ | refine Qi ?_ | refine Qj ?_ | refine Qk ?_ | refine Ql ?_ | refine Qm ?_ | refine Qn ?_ | refine Qo ?_ | refine Qp rfl ?_) | (first | refine Qq ?_ | refine Qr ?_) | (first | refine Qs ?_ | refine Qt ?_ | refine Qu ?_) | (first | refine Qv ?_ | refine Qw ?_) | (first | refine Qx ?_ | refine Qy ?_) | (first | refine Qz ?_ | refine Ra ?_ | refine Rb ?_))
  refine PW_drawn [(0, .a), (1, .a), (2, .b), (3, .a), (4, .a), (5, .a), (6, .b), (7, .a), (8, .a)] (by kernel_rfl) (by rfl) (by kernel_rfl) ?_
  repeat (first | (with_reducible first | refine Qa ?_ | refine Qb ?_ | refine Qc ?_ | refine Qd ?_ | refine Qe ?_ | refine Qf ?_ | refine Qg ?_ | refine Qh ?_ | refine Qi ?_ | refine Qj ?_ | refine Qk ?_ | refine Ql ?_ | refine Qm ?_ | refine Qn ?_ | refine Qo ?_ | refine Qp rfl ?_) | (first | refine Qq ?_ | refine Qr ?_) | (first | refine Qs ?_ | refine Qt ?_ | refine Qu ?_) | (first | refine Qv ?_ | refine Qw ?_) | (first | refine Qx ?_ | refine Qy ?_) | (first | refine Qz ?_ | refine Ra ?_ | refine Rb ?_))
  refine POrd_bs_a ?_
  repeat (first | (with_reducible first | refine Qa ?_ | refine Qb ?_ | refine Qc ?_ | refine Qd ?_ | refine Qe ?_ | refine Qf ?_ | refine Qg ?_ | refine Qh ?_ | refine Qi ?_ | refine Qj ?_ | refine Qk ?_ | refine Ql ?_ | refine Qm ?_ | refine Qn ?_ | refine Qo ?_ | refine Qp rfl ?_) | (first | refine Qq ?_ | refine Qr ?_) | (first | refine Qs ?_ | refine Qt ?_ | refine Qu ?_) | (first | refine Qv ?_ | refine Qw ?_) | (first | refine Qx ?_ | refine Qy ?_) | (first | refine Qz ?_ | refine Ra ?_ | refine Rb ?_))
  refine POrd_cat_a ?_
  repeat (first | (with_reducible first | refine Qa ?_ | refine Qb ?_ | refine Qc ?_ | refine Qd ?_ | refine Qe ?_ | refine Qf ?_ | refine Qg ?_ | refine Qh ?_ | refine Qi ?_ | refine Qj ?_ | refine Qk ?_ | refine Ql ?_ | refine Qm ?_ | refine Qn ?_ | refine Qo ?_ | refine Qp rfl ?_) | (first | refine Qq ?_ | refine Qr ?_) | (first | refine Qs ?_ | refine Qt ?_ | refine Qu ?_) | (first | refine Qv ?_ | refine Qw ?_) | (first | refine Qx ?_ | refine Qy ?_) | (first | refine Qz ?_ | refine Ra ?_ | refine Rb ?_))
  refine PW_loop (ι := Nat) (fun k => k ≤ te.length) (fun k => [(1, .ptr i0 0), (3, .d (.v (.string (strB (kw ++ s.toList ++ telesL (te.take k)))))), (4, .d (.v (.int .i64 k)))]) (fun _ => [.box i0 53 [.d (.v (.int .i64 kd)), .d (.v (.int .i64 a)), .d (.v (.string s)), .d (.sl (te.map encD)), .d (.v (.int .i64 ty.kind)), .d (.v (.int .i64 ty.at)), .d (.v (.string ty.name)), .d (.v (.int .i64 ty.num)), .d (.sl (ty.sub.map encD)), .d (.sl (co.map encD)), .d (.sl (ro.map encD))]]) (fun k => te.length - k) 0 (Nat.zero_le _) ?_ ?_ ?_
  · refine sub_cons (by simp [PF.get] <;> rfl) rfl ?_
    refine sub_cons (by simp [PF.get] <;> rfl) (by simp [telesL]) ?_
    repeat (first | exact sub_nil _ | refine sub_cons (by simp [PF.get]; rfl) (by first | rfl | (simp [*]; done) | fail) ?_)
  · repeat (first | exact List.Sublist.refl _ | exact List.nil_sublist _ | refine List.Sublist.cons_cons _ ?_ | refine List.Sublist.cons _ ?_)
  · intro k hk
    have l1 := LT.out k
    by_cases hlt : k < te.length
    · obtain ⟨e1, e2, e3⟩ := ET.out k hlt
      unfold RxC at e1
      have hx := get_enc hlt
      have hc : ((k : Int) < (te.length : Int)) := by omega
      have hn : (0 : Int) ≤ (k : Int) := by omega
      have hin := wrap_next hlt (by omega)
      have HT := Lib.hid (telesL_take hlt)
      repeat (first | (with_reducible first | refine Qa ?_ | refine Qb ?_ | refine Qc ?_ | refine Qd ?_ | refine Qe ?_ | refine Qf ?_ | refine Qg ?_ | refine Qh ?_ | refine Qi ?_ | refine Qj ?_ | refine Qk ?_ | refine Ql ?_ | refine Qm ?_ | refine Qn ?_ | refine Qo ?_ | refine Qp rfl ?_) | (first | refine Qq ?_ | refine Qr ?_) | (first | refine Qs ?_ | refine Qt ?_ | refine Qu ?_) | (first | refine Qv ?_ | refine Qw ?_) | (first | refine Qx ?_ | refine Qy ?_) | (first | refine Qz ?_ | refine Ra ?_ | refine Rb ?_))
      refine PW_drawn [(0, .a), (1, .a), (2, .a), (3, .b), (4, .a), (5, .a), (6, .a), (7, .a), (8, .a), (9, .a), (10, .a), (11, .b), (12, .a), (13, .a), (14, .a), (15, .a), (16, .a), (17, .a), (18, .a), (19, .a)] (by kernel_rfl) (by rfl) (by kernel_rfl) ?_
      repeat (first | (with_reducible first | refine Qa ?_ | refine Qb ?_ | refine Qc ?_ | refine Qd ?_ | refine Qe ?_ | refine Qf ?_ | refine Qg ?_ | refine Qh ?_ | refine Qi ?_ | refine Qj ?_ | refine Qk ?_ | refine Ql ?_ | refine Qm ?_ | refine Qn ?_ | refine Qo ?_ | refine Qp rfl ?_) | (first | refine Qq ?_ | refine Qr ?_) | (first | refine Qs ?_ | refine Qt ?_ | refine Qu ?_) | (first | refine Qv ?_ | refine Qw ?_) | (first | refine Qx ?_ | refine Qy ?_) | (first | refine Qz ?_ | refine Ra ?_ | refine Rb ?_))
      refine POrd_cat_a ?_
      repeat (first | (with_reducible first | refine Qa ?_ | refine Qb ?_ | refine Qc ?_ | refine Qd ?_ | refine Qe ?_ | refine Qf ?_ | refine Qg ?_ | refine Qh ?_ | refine Qi ?_ | refine Qj ?_ | refine Qk ?_ | refine Ql ?_ | refine Qm ?_ | refine Qn ?_ | refine Qo ?_ | refine Qp rfl ?_) | (first | refine Qq ?_ | refine Qr ?_) | (first | refine Qs ?_ | refine Qt ?_ | refine Qu ?_) | (first | refine Qv ?_ | refine Qw ?_) | (first | refine Qx ?_ | refine Qy ?_) | (first | refine Qz ?_ | refine Ra ?_ | refine Rb ?_))
      refine POrd_cat_a ?_
      refine POrd_cat_a ?_
      repeat (first | (with_reducible first | refine Qa ?_ | refine Qb ?_ | refine Qc ?_ | refine Qd ?_ | refine Qe ?_ | refine Qf ?_ | refine Qg ?_ | refine Qh ?_ | refine Qi ?_ | refine Qj ?_ | refine Qk ?_ | refine Ql ?_ | refine Qm ?_ | refine Qn ?_ | refine Qo ?_ | refine Qp rfl ?_) | (first | refine Qq ?_ | refine Qr ?_) | (first | refine Qs ?_ | refine Qt ?_ | refine Qu ?_) | (first | refine Qv ?_ | refine Qw ?_) | (first | refine Qx ?_ | refine Qy ?_) | (first | refine Qz ?_ | refine Ra ?_ | refine Rb ?_))
      refine POrd_call_b (e1) ?_
      repeat (first | (with_reducible first | refine Qa ?_ | refine Qb ?_ | refine Qc ?_ | refine Qd ?_ | refine Qe ?_ | refine Qf ?_ | refine Qg ?_ | refine Qh ?_ | refine Qi ?_ | refine Qj ?_ | refine Qk ?_ | refine Ql ?_ | refine Qm ?_ | refine Qn ?_ | refine Qo ?_ | refine Qp rfl ?_) | (first | refine Qq ?_ | refine Qr ?_) | (first | refine Qs ?_ | refine Qt ?_ | refine Qu ?_) | (first | refine Qv ?_ | refine Qw ?_) | (first | refine Qx ?_ | refine Qy ?_) | (first | refine Qz ?_ | refine Ra ?_ | refine Rb ?_))
      refine POrd_cat_a ?_
      refine POrd_cat_a ?_
      repeat (first | (with_reducible first | refine Qa ?_ | refine Qb ?_ | refine Qc ?_ | refine Qd ?_ | refine Qe ?_ | refine Qf ?_ | refine Qg ?_ | refine Qh ?_ | refine Qi ?_ | refine Qj ?_ | refine Qk ?_ | refine Ql ?_ | refine Qm ?_ | refine Qn ?_ | refine Qo ?_ | refine Qp rfl ?_) | (first | refine Qq ?_ | refine Qr ?_) | (first | refine Qs ?_ | refine Qt ?_ | refine Qu ?_) | (first | refine Qv ?_ | refine Qw ?_) | (first | refine Qx ?_ | refine Qy ?_) | (first | refine Qz ?_ | refine Ra ?_ | refine Rb ?_))
      refine ⟨k + 1, by omega, by omega, ?_, ?_⟩
      · refine sub_cons (by simp [PF.get] <;> rfl) rfl ?_
        refine sub_cons (by simp [PF.get] <;> rfl) (by rw [HT.out]; simp [bdL]) ?_
        repeat (first | exact sub_nil _ | refine sub_cons (by simp [PF.get]; rfl) (by first | rfl | (simp [hin]; done) | fail) ?_)
      · repeat (first | exact List.Sublist.refl _ | exact List.nil_sublist _ | refine List.Sublist.cons_cons _ ?_ | refine List.Sublist.cons _ ?_)
    · have hc : ¬ ((k : Int) < (te.length : Int)) := by omega
      rw [List.take_of_length_le (by omega)] at l1 ⊢
      repeat (first | (with_reducible first | refine Qa ?_ | refine Qb ?_ | refine Qc ?_ | refine Qd ?_ | refine Qe ?_ | refine Qf ?_ | refine Qg ?_ | refine Qh ?_ | refine Qi ?_ | refine Qj ?_ | refine Qk ?_ | refine Ql ?_ | refine Qm ?_ | refine Qn ?_ | refine Qo ?_ | refine Qp rfl ?_) | (first | refine Qq ?_ | refine Qr ?_) | (first | refine Qs ?_ | refine Qt ?_ | refine Qu ?_) | (first | refine Qv ?_ | refine Qw ?_) | (first | refine Qx ?_ | refine Qy ?_) | (first | refine Qz ?_ | refine Ra ?_ | refine Rb ?_))
      clear hk hc hlt
      refine POps_cat_a ?_
      repeat (first | (with_reducible first | refine Qa ?_ | refine Qb ?_ | refine Qc ?_ | refine Qd ?_ | refine Qe ?_ | refine Qf ?_ | refine Qg ?_ | refine Qh ?_ | refine Qi ?_ | refine Qj ?_ | refine Qk ?_ | refine Ql ?_ | refine Qm ?_ | refine Qn ?_ | refine Qo ?_ | refine Qp rfl ?_) | (first | refine Qq ?_ | refine Qr ?_) | (first | refine Qs ?_ | refine Qt ?_ | refine Qu ?_) | (first | refine Qv ?_ | refine Qw ?_) | (first | refine Qx ?_ | refine Qy ?_) | (first | refine Qz ?_ | refine Ra ?_ | refine Rb ?_))
      refine POps_call_a (hx) ?_
      repeat (first | (with_reducible first | refine Qa ?_ | refine Qb ?_ | refine Qc ?_ | refine Qd ?_ | refine Qe ?_ | refine Qf ?_ | refine Qg ?_ | refine Qh ?_ | refine Qi ?_ | refine Qj ?_ | refine Qk ?_ | refine Ql ?_ | refine Qm ?_ | refine Qn ?_ | refine Qo ?_ | refine Qp rfl ?_) | (first | refine Qq ?_ | refine Qr ?_) | (first | refine Qs ?_ | refine Qt ?_ | refine Qu ?_) | (first | refine Qv ?_ | refine Qw ?_) | (first | refine Qx ?_ | refine Qy ?_) | (first | refine Qz ?_ | refine Ra ?_ | refine Rb ?_))
      refine POps_cat_a ?_
      refine POps_cat_a ?_
      repeat (first | (with_reducible first | refine Qa ?_ | refine Qb ?_ | refine Qc ?_ | refine Qd ?_ | refine Qe ?_ | refine Qf ?_ | refine Qg ?_ | refine Qh ?_ | refine Qi ?_ | refine Qj ?_ | refine Qk ?_ | refine Ql ?_ | refine Qm ?_ | refine Qn ?_ | refine Qo ?_ | refine Qp rfl ?_) | (first | refine Qq ?_ | refine Qr ?_) | (first | refine Qs ?_ | refine Qt ?_ | refine Qu ?_) | (first | refine Qv ?_ | refine Qw ?_) | (first | refine Qx ?_ | refine Qy ?_) | (first | refine Qz ?_ | refine Ra ?_ | refine Rb ?_))
      refine PW_loop (ι := Nat) (fun k => k ≤ co.length) (fun k => [(1, .ptr i0 0), (3, .d (.v (.string (strB (kw ++ s.toList ++ telesL te ++ [32, 58, 32] ++ exL ty 0 ++ [32, 123, 10] ++ consL (co.take k)))))), (5, .d (.v (.int .i64 k)))]) (fun _ => [.box i0 53 [.d (.v (.int .i64 kd)), .d (.v (.int .i64 a)), .d (.v (.string s)), .d (.sl (te.map encD)), .d (.v (.int .i64 ty.kind)), .d (.v (.int .i64 ty.at)), .d (.v (.string ty.name)), .d (.v (.int .i64 ty.num)), .d (.sl (ty.sub.map encD)), .d (.sl (co.map encD)), .d (.sl (ro.map encD))]]) (fun k => co.length - k) 0 (Nat.zero_le _) ?_ ?_ ?_
      · refine sub_cons (by simp [PF.get] <;> rfl) rfl ?_
        refine sub_cons (by simp [PF.get] <;> rfl) (by simp [consL]) ?_
        repeat (first | exact sub_nil _ | refine sub_cons (by simp [PF.get]; rfl) (by first | rfl | (simp [*]; done) | fail) ?_)
      · repeat (first | exact List.Sublist.refl _ | exact List.nil_sublist _ | refine List.Sublist.cons_cons _ ?_ | refine List.Sublist.cons _ ?_)
      · intro k hk
        have l1 := LC.out k
        by_cases hlt : k < co.length
        · obtain ⟨e1, e2, e3⟩ := EC.out k hlt
          unfold RxC at e1
          have hx := get_enc hlt
          have hc : ((k : Int) < (co.length : Int)) := by omega
          have hn : (0 : Int) ≤ (k : Int) := by omega
          have hin := wrap_next hlt (by omega)
          have HT := Lib.hid (consL_take hlt)
          repeat (first | (with_reducible first | refine Qa ?_ | refine Qb ?_ | refine Qc ?_ | refine Qd ?_ | refine Qe ?_ | refine Qf ?_ | refine Qg ?_ | refine Qh ?_ | refine Qi ?_ | refine Qj ?_ | refine Qk ?_ | refine Ql ?_ | refine Qm ?_ | refine Qn ?_ | refine Qo ?_ | refine Qp rfl ?_) | (first | refine Qq ?_ | refine Qr ?_) | (first | refine Qs ?_ | refine Qt ?_ | refine Qu ?_) | (first | refine Qv ?_ | refine Qw ?_) | (first | refine Qx ?_ | refine Qy ?_) | (first | refine Qz ?_ | refine Ra ?_ | refine Rb ?_))
          refine PW_drawn [(0, .a), (1, .a), (2, .a), (3, .b), (4, .a), (5, .a), (6, .a), (7, .a), (8, .a), (9, .a), (10, .a), (11, .b), (12, .a), (13, .a), (14, .a), (15, .a), (16, .a), (17, .a), (18, .a), (19, .a)] (by kernel_rfl) (by rfl) (by kernel_rfl) ?_
          repeat (first | (with_reducible first | refine Qa ?_ | refine Qb ?_ | refine Qc ?_ | refine Qd ?_ | refine Qe ?_ | refine Qf ?_ | refine Qg ?_ | refine Qh ?_ | refine Qi ?_ | refine Qj ?_ | refine Qk ?_ | refine Ql ?_ | refine Qm ?_ | refine Qn ?_ | refine Qo ?_ | refine Qp rfl ?_) | (first | refine Qq ?_ | refine Qr ?_) | (first | refine Qs ?_ | refine Qt ?_ | refine Qu ?_) | (first | refine Qv ?_ | refine Qw ?_) | (first | refine Qx ?_ | refine Qy ?_) | (first | refine Qz ?_ | refine Ra ?_ | refine Rb ?_))
          refine POrd_cat_a ?_
          repeat (first | (with_reducible first | refine Qa ?_ | refine Qb ?_ | refine Qc ?_ | refine Qd ?_ | refine Qe ?_ | refine Qf ?_ | refine Qg ?_ | refine Qh ?_ | refine Qi ?_ | refine Qj ?_ | refine Qk ?_ | refine Ql ?_ | refine Qm ?_ | refine Qn ?_ | refine Qo ?_ | refine Qp rfl ?_) | (first | refine Qq ?_ | refine Qr ?_) | (first | refine Qs ?_ | refine Qt ?_ | refine Qu ?_) | (first | refine Qv ?_ | refine Qw ?_) | (first | refine Qx ?_ | refine Qy ?_) | (first | refine Qz ?_ | refine Ra ?_ | refine Rb ?_))
          refine POrd_cat_a ?_
          refine POrd_cat_a ?_
          repeat (first | (with_reducible first | refine Qa ?_ | refine Qb ?_ | refine Qc ?_ | refine Qd ?_ | refine Qe ?_ | refine Qf ?_ | refine Qg ?_ | refine Qh ?_ | refine Qi ?_ | refine Qj ?_ | refine Qk ?_ | refine Ql ?_ | refine Qm ?_ | refine Qn ?_ | refine Qo ?_ | refine Qp rfl ?_) | (first | refine Qq ?_ | refine Qr ?_) | (first | refine Qs ?_ | refine Qt ?_ | refine Qu ?_) | (first | refine Qv ?_ | refine Qw ?_) | (first | refine Qx ?_ | refine Qy ?_) | (first | refine Qz ?_ | refine Ra ?_ | refine Rb ?_))
          refine POrd_call_b (e1) ?_
          repeat (first | (with_reducible first | refine Qa ?_ | refine Qb ?_ | refine Qc ?_ | refine Qd ?_ | refine Qe ?_ | refine Qf ?_ | refine Qg ?_ | refine Qh ?_ | refine Qi ?_ | refine Qj ?_ | refine Qk ?_ | refine Ql ?_ | refine Qm ?_ | refine Qn ?_ | refine Qo ?_ | refine Qp rfl ?_) | (first | refine Qq ?_ | refine Qr ?_) | (first | refine Qs ?_ | refine Qt ?_ | refine Qu ?_) | (first | refine Qv ?_ | refine Qw ?_) | (first | refine Qx ?_ | refine Qy ?_) | (first | refine Qz ?_ | refine Ra ?_ | refine Rb ?_))
          refine POrd_cat_a ?_
          refine POrd_cat_a ?_
          repeat (first | (with_reducible first | refine Qa ?_ | refine Qb ?_ | refine Qc ?_ | refine Qd ?_ | refine Qe ?_ | refine Qf ?_ | refine Qg ?_ | refine Qh ?_ | refine Qi ?_ | refine Qj ?_ | refine Qk ?_ | refine Ql ?_ | refine Qm ?_ | refine Qn ?_ | refine Qo ?_ | refine Qp rfl ?_) | (first | refine Qq ?_ | refine Qr ?_) | (first | refine Qs ?_ | refine Qt ?_ | refine Qu ?_) | (first | refine Qv ?_ | refine Qw ?_) | (first | refine Qx ?_ | refine Qy ?_) | (first | refine Qz ?_ | refine Ra ?_ | refine Rb ?_))
          refine ⟨k + 1, by omega, by omega, ?_, ?_⟩
          · refine sub_cons (by simp [PF.get] <;> rfl) rfl ?_
            refine sub_cons (by simp [PF.get] <;> rfl) (by rw [HT.out]; simp [bdL]) ?_
            repeat (first | exact sub_nil _ | refine sub_cons (by simp [PF.get]; rfl) (by first | rfl | (simp [hin]; done) | fail) ?_)
          · repeat (first | exact List.Sublist.refl _ | exact List.nil_sublist _ | refine List.Sublist.cons_cons _ ?_ | refine List.Sublist.cons _ ?_)
        · have hc : ¬ ((k : Int) < (co.length : Int)) := by omega
          rw [List.take_of_length_le (by omega)] at l1 ⊢
          repeat (first | (with_reducible first | refine Qa ?_ | refine Qb ?_ | refine Qc ?_ | refine Qd ?_ | refine Qe ?_ | refine Qf ?_ | refine Qg ?_ | refine Qh ?_ | refine Qi ?_ | refine Qj ?_ | refine Qk ?_ | refine Ql ?_ | refine Qm ?_ | refine Qn ?_ | refine Qo ?_ | refine Qp rfl ?_) | (first | refine Qq ?_ | refine Qr ?_) | (first | refine Qs ?_ | refine Qt ?_ | refine Qu ?_) | (first | refine Qv ?_ | refine Qw ?_) | (first | refine Qx ?_ | refine Qy ?_) | (first | refine Qz ?_ | refine Ra ?_ | refine Rb ?_))
          have l2 := LC.out co.length
          rw [List.take_length] at l2
          have l3 := LT.out te.length
          rw [List.take_length] at l3
          clear hk hc hlt
          refine PW_loop (ι := Nat) (fun k => k ≤ ro.length) (fun k => [(1, .ptr i0 0), (3, .d (.v (.string (strB (kw ++ s.toList ++ telesL te ++ [32, 58, 32] ++ exL ty 0 ++ [32, 123, 10] ++ consL co ++ rowsL (ro.take k)))))), (6, .d (.v (.int .i64 k)))]) (fun _ => [.box i0 53 [.d (.v (.int .i64 kd)), .d (.v (.int .i64 a)), .d (.v (.string s)), .d (.sl (te.map encD)), .d (.v (.int .i64 ty.kind)), .d (.v (.int .i64 ty.at)), .d (.v (.string ty.name)), .d (.v (.int .i64 ty.num)), .d (.sl (ty.sub.map encD)), .d (.sl (co.map encD)), .d (.sl (ro.map encD))]]) (fun k => ro.length - k) 0 (Nat.zero_le _) ?_ ?_ ?_
          · refine sub_cons (by simp [PF.get] <;> rfl) rfl ?_
            refine sub_cons (by simp [PF.get] <;> rfl) (by simp [rowsL]) ?_
            repeat (first | exact sub_nil _ | refine sub_cons (by simp [PF.get]; rfl) (by first | rfl | (simp [*]; done) | fail) ?_)
          · repeat (first | exact List.Sublist.refl _ | exact List.nil_sublist _ | refine List.Sublist.cons_cons _ ?_ | refine List.Sublist.cons _ ?_)
          · intro k hk
            have l1 := LR.out k
            by_cases hlt : k < ro.length
            · have hrow2 := ER.out k hlt
              unfold rowB at hrow2
              simp only [Bool.and_eq_true, decide_eq_true_eq] at hrow2
              obtain ⟨⟨hpl, hpa⟩, hbo⟩ := hrow2
              have HPA := Lib.hid hpa
              have HBO := Lib.hid hbo
              clear hpa hbo
              have hx2 := get_enc hlt
              have hc : ((k : Int) < (ro.length : Int)) := by omega
              have hn : (0 : Int) ≤ (k : Int) := by omega
              have hin := wrap_next hlt (by omega)
              have HT := Lib.hid (rowsL_take hlt)
              have HR := Lib.hid (show rowL ro[k] = [32, 32] ++ patsW ro[k].pats ++ (if ro[k].has then [61, 32] ++ exL ro[k].body 0 else []) ++ [59, 10] from rfl)
              repeat (first | (with_reducible first | refine Qa ?_ | refine Qb ?_ | refine Qc ?_ | refine Qd ?_ | refine Qe ?_ | refine Qf ?_ | refine Qg ?_ | refine Qh ?_ | refine Qi ?_ | refine Qj ?_ | refine Qk ?_ | refine Ql ?_ | refine Qm ?_ | refine Qn ?_ | refine Qo ?_ | refine Qp rfl ?_) | (first | refine Qq ?_ | refine Qr ?_) | (first | refine Qs ?_ | refine Qt ?_ | refine Qu ?_) | (first | refine Qv ?_ | refine Qw ?_) | (first | refine Qx ?_ | refine Qy ?_) | (first | refine Qz ?_ | refine Ra ?_ | refine Rb ?_))
              refine POps_cat_a ?_
              repeat (first | (with_reducible first | refine Qa ?_ | refine Qb ?_ | refine Qc ?_ | refine Qd ?_ | refine Qe ?_ | refine Qf ?_ | refine Qg ?_ | refine Qh ?_ | refine Qi ?_ | refine Qj ?_ | refine Qk ?_ | refine Ql ?_ | refine Qm ?_ | refine Qn ?_ | refine Qo ?_ | refine Qp rfl ?_) | (first | refine Qq ?_ | refine Qr ?_) | (first | refine Qs ?_ | refine Qt ?_ | refine Qu ?_) | (first | refine Qv ?_ | refine Qw ?_) | (first | refine Qx ?_ | refine Qy ?_) | (first | refine Qz ?_ | refine Ra ?_ | refine Rb ?_))
              refine PW_loop (ι := Nat) (fun j => j ≤ ro[k].pats.length) (fun j => [(1, .ptr i0 0), (3, .d (.v (.string (strB (kw ++ s.toList ++ telesL te ++ [32, 58, 32] ++ exL ty 0 ++ [32, 123, 10] ++ consL co ++ rowsL (ro.take k) ++ [32, 32] ++ patsW (ro[k].pats.take j)))))), (6, .d (.v (.int .i64 k))), (7, .d (.v (.int .i64 j)))]) (fun _ => [.box i0 53 [.d (.v (.int .i64 kd)), .d (.v (.int .i64 a)), .d (.v (.string s)), .d (.sl (te.map encD)), .d (.v (.int .i64 ty.kind)), .d (.v (.int .i64 ty.at)), .d (.v (.string ty.name)), .d (.v (.int .i64 ty.num)), .d (.sl (ty.sub.map encD)), .d (.sl (co.map encD)), .d (.sl (ro.map encD))]]) (fun j => ro[k].pats.length - j) 0 (Nat.zero_le _) ?_ ?_ ?_
              · refine sub_cons (by simp [PF.get] <;> rfl) rfl ?_
                refine sub_cons (by simp [PF.get] <;> rfl) (by simp [patsW]) ?_
                repeat (first | exact sub_nil _ | refine sub_cons (by simp [PF.get]; rfl) (by first | rfl | (simp [*]; done) | fail) ?_)
              · repeat (first | exact List.Sublist.refl _ | exact List.nil_sublist _ | refine List.Sublist.cons_cons _ ?_ | refine List.Sublist.cons _ ?_)
              · intro j hj
                have l4 : (patsW (ro[k].pats.take j)).length ≤ 12000000 := by
                  have h1 := patsW_len (ro[k].pats.take j) (take_mem fun b hb => List.all_eq_true.1 HPA.out b hb)
                  have h2 : (ro[k].pats.take j).length ≤ 24 := by rw [List.length_take]; omega
                  omega
                by_cases hlj : j < ro[k].pats.length
                · have hpj : patB ro[k].pats[j] = true := List.all_eq_true.1 HPA.out _ (List.getElem_mem hlj)
                  have l5 := patB_len hpj
                  have e1 := rpatB hpj
                  unfold RpC at e1
                  clear hpj
                  have hxj := get_enc hlj
                  have hcj : ((j : Int) < (ro[k].pats.length : Int)) := by omega
                  have hnj : (0 : Int) ≤ (j : Int) := by omega
                  have hinj := wrap_next hlj (by omega)
                  have HTj := Lib.hid (patsW_take hlj)
                  repeat (first | (with_reducible first | refine Qa ?_ | refine Qb ?_ | refine Qc ?_ | refine Qd ?_ | refine Qe ?_ | refine Qf ?_ | refine Qg ?_ | refine Qh ?_ | refine Qi ?_ | refine Qj ?_ | refine Qk ?_ | refine Ql ?_ | refine Qm ?_ | refine Qn ?_ | refine Qo ?_ | refine Qp rfl ?_) | (first | refine Qq ?_ | refine Qr ?_) | (first | refine Qs ?_ | refine Qt ?_ | refine Qu ?_) | (first | refine Qv ?_ | refine Qw ?_) | (first | refine Qx ?_ | refine Qy ?_) | (first | refine Qz ?_ | refine Ra ?_ | refine Rb ?_))
                  refine POps_call_a (e1) ?_
                  refine POps_cat_a ?_
                  refine POps_cat_a ?_
                  repeat (first | (with_reducible first | refine Qa ?_ | refine Qb ?_ | refine Qc ?_ | refine Qd ?_ | refine Qe ?_ | refine Qf ?_ | refine Qg ?_ | refine Qh ?_ | refine Qi ?_ | refine Qj ?_ | refine Qk ?_ | refine Ql ?_ | refine Qm ?_ | refine Qn ?_ | refine Qo ?_ | refine Qp rfl ?_) | (first | refine Qq ?_ | refine Qr ?_) | (first | refine Qs ?_ | refine Qt ?_ | refine Qu ?_) | (first | refine Qv ?_ | refine Qw ?_) | (first | refine Qx ?_ | refine Qy ?_) | (first | refine Qz ?_ | refine Ra ?_ | refine Rb ?_))
                  refine ⟨j + 1, by omega, by omega, ?_, ?_⟩
                  · refine sub_cons (by simp [PF.get] <;> rfl) rfl ?_
                    refine sub_cons (by simp [PF.get] <;> rfl) (by rw [HTj.out]; simp) ?_
                    repeat (first | exact sub_nil _ | refine sub_cons (by simp [PF.get]; rfl) (by first | rfl | (simp [hinj]; done) | fail) ?_)
                  · repeat (first | exact List.Sublist.refl _ | exact List.nil_sublist _ | refine List.Sublist.cons_cons _ ?_ | refine List.Sublist.cons _ ?_)
                · have hcj : ¬ ((j : Int) < (ro[k].pats.length : Int)) := by omega
                  rw [List.take_of_length_le (show ro[k].pats.length ≤ j by omega)] at l4 ⊢
                  cases hh : ro[k].has with
                  | true =>
                    have hb := HBO.out
                    rw [hh, if_pos rfl] at hb
                    have l6 := exprB_len hb
                    have e1 := rexB hb
                    unfold RxC at e1
                    clear hb
                    rw [hh] at HR
                    repeat (first | (with_reducible first | refine Qa ?_ | refine Qb ?_ | refine Qc ?_ | refine Qd ?_ | refine Qe ?_ | refine Qf ?_ | refine Qg ?_ | refine Qh ?_ | refine Qi ?_ | refine Qj ?_ | refine Qk ?_ | refine Ql ?_ | refine Qm ?_ | refine Qn ?_ | refine Qo ?_ | refine Qp rfl ?_) | (first | refine Qq ?_ | refine Qr ?_) | (first | refine Qs ?_ | refine Qt ?_ | refine Qu ?_) | (first | refine Qv ?_ | refine Qw ?_) | (first | refine Qx ?_ | refine Qy ?_) | (first | refine Qz ?_ | refine Ra ?_ | refine Rb ?_))
                    refine POps_cat_a ?_
                    repeat (first | (with_reducible first | refine Qa ?_ | refine Qb ?_ | refine Qc ?_ | refine Qd ?_ | refine Qe ?_ | refine Qf ?_ | refine Qg ?_ | refine Qh ?_ | refine Qi ?_ | refine Qj ?_ | refine Qk ?_ | refine Ql ?_ | refine Qm ?_ | refine Qn ?_ | refine Qo ?_ | refine Qp rfl ?_) | (first | refine Qq ?_ | refine Qr ?_) | (first | refine Qs ?_ | refine Qt ?_ | refine Qu ?_) | (first | refine Qv ?_ | refine Qw ?_) | (first | refine Qx ?_ | refine Qy ?_) | (first | refine Qz ?_ | refine Ra ?_ | refine Rb ?_))
                    refine POps_call_a (e1) ?_
                    refine POps_cat_a ?_
                    repeat (first | (with_reducible first | refine Qa ?_ | refine Qb ?_ | refine Qc ?_ | refine Qd ?_ | refine Qe ?_ | refine Qf ?_ | refine Qg ?_ | refine Qh ?_ | refine Qi ?_ | refine Qj ?_ | refine Qk ?_ | refine Ql ?_ | refine Qm ?_ | refine Qn ?_ | refine Qo ?_ | refine Qp rfl ?_) | (first | refine Qq ?_ | refine Qr ?_) | (first | refine Qs ?_ | refine Qt ?_ | refine Qu ?_) | (first | refine Qv ?_ | refine Qw ?_) | (first | refine Qx ?_ | refine Qy ?_) | (first | refine Qz ?_ | refine Ra ?_ | refine Rb ?_))
                    refine POps_cat_a ?_
                    repeat (first | (with_reducible first | refine Qa ?_ | refine Qb ?_ | refine Qc ?_ | refine Qd ?_ | refine Qe ?_ | refine Qf ?_ | refine Qg ?_ | refine Qh ?_ | refine Qi ?_ | refine Qj ?_ | refine Qk ?_ | refine Ql ?_ | refine Qm ?_ | refine Qn ?_ | refine Qo ?_ | refine Qp rfl ?_) | (first | refine Qq ?_ | refine Qr ?_) | (first | refine Qs ?_ | refine Qt ?_ | refine Qu ?_) | (first | refine Qv ?_ | refine Qw ?_) | (first | refine Qx ?_ | refine Qy ?_) | (first | refine Qz ?_ | refine Ra ?_ | refine Rb ?_))
                    refine ⟨k + 1, by omega, by omega, ?_, ?_⟩
                    · refine sub_cons (by simp [PF.get] <;> rfl) rfl ?_
                      refine sub_cons (by simp [PF.get] <;> rfl) (by rw [HT.out, HR.out]; simp) ?_
                      repeat (first | exact sub_nil _ | refine sub_cons (by simp [PF.get]; rfl) (by first | rfl | (simp [hin]; done) | fail) ?_)
                    · repeat (first | exact List.Sublist.refl _ | exact List.nil_sublist _ | refine List.Sublist.cons_cons _ ?_ | refine List.Sublist.cons _ ?_)
                  | false =>
                    rw [hh] at HR
                    repeat (first | (with_reducible first | refine Qa ?_ | refine Qb ?_ | refine Qc ?_ | refine Qd ?_ | refine Qe ?_ | refine Qf ?_ | refine Qg ?_ | refine Qh ?_ | refine Qi ?_ | refine Qj ?_ | refine Qk ?_ | refine Ql ?_ | refine Qm ?_ | refine Qn ?_ | refine Qo ?_ | refine Qp rfl ?_) | (first | refine Qq ?_ | refine Qr ?_) | (first | refine Qs ?_ | refine Qt ?_ | refine Qu ?_) | (first | refine Qv ?_ | refine Qw ?_) | (first | refine Qx ?_ | refine Qy ?_) | (first | refine Qz ?_ | refine Ra ?_ | refine Rb ?_))
                    refine POps_cat_a ?_
                    repeat (first | (with_reducible first | refine Qa ?_ | refine Qb ?_ | refine Qc ?_ | refine Qd ?_ | refine Qe ?_ | refine Qf ?_ | refine Qg ?_ | refine Qh ?_ | refine Qi ?_ | refine Qj ?_ | refine Qk ?_ | refine Ql ?_ | refine Qm ?_ | refine Qn ?_ | refine Qo ?_ | refine Qp rfl ?_) | (first | refine Qq ?_ | refine Qr ?_) | (first | refine Qs ?_ | refine Qt ?_ | refine Qu ?_) | (first | refine Qv ?_ | refine Qw ?_) | (first | refine Qx ?_ | refine Qy ?_) | (first | refine Qz ?_ | refine Ra ?_ | refine Rb ?_))
                    refine ⟨k + 1, by omega, by omega, ?_, ?_⟩
                    · refine sub_cons (by simp [PF.get] <;> rfl) rfl ?_
                      refine sub_cons (by simp [PF.get] <;> rfl) (by rw [HT.out, HR.out]; simp) ?_
                      repeat (first | exact sub_nil _ | refine sub_cons (by simp [PF.get]; rfl) (by first | rfl | (simp [hin]; done) | fail) ?_)
                    · repeat (first | exact List.Sublist.refl _ | exact List.nil_sublist _ | refine List.Sublist.cons_cons _ ?_ | refine List.Sublist.cons _ ?_)
            · have hc : ¬ ((k : Int) < (ro.length : Int)) := by omega
              rw [List.take_of_length_le (by omega)] at l1 ⊢
              repeat (first | (with_reducible first | refine Qa ?_ | refine Qb ?_ | refine Qc ?_ | refine Qd ?_ | refine Qe ?_ | refine Qf ?_ | refine Qg ?_ | refine Qh ?_ | refine Qi ?_ | refine Qj ?_ | refine Qk ?_ | refine Ql ?_ | refine Qm ?_ | refine Qn ?_ | refine Qo ?_ | refine Qp rfl ?_) | (first | refine Qq ?_ | refine Qr ?_) | (first | refine Qs ?_ | refine Qt ?_ | refine Qu ?_) | (first | refine Qv ?_ | refine Qw ?_) | (first | refine Qx ?_ | refine Qy ?_) | (first | refine Qz ?_ | refine Ra ?_ | refine Rb ?_))
              refine POps_cat_a ?_
              repeat (first | (with_reducible first | refine Qa ?_ | refine Qb ?_ | refine Qc ?_ | refine Qd ?_ | refine Qe ?_ | refine Qf ?_ | refine Qg ?_ | refine Qh ?_ | refine Qi ?_ | refine Qj ?_ | refine Qk ?_ | refine Ql ?_ | refine Qm ?_ | refine Qn ?_ | refine Qo ?_ | refine Qp rfl ?_) | (first | refine Qq ?_ | refine Qr ?_) | (first | refine Qs ?_ | refine Qt ?_ | refine Qu ?_) | (first | refine Qv ?_ | refine Qw ?_) | (first | refine Qx ?_ | refine Qy ?_) | (first | refine Qz ?_ | refine Ra ?_ | refine Rb ?_))
              refine retP_ok (by simp) (by simp only [Try.results78]; rfl) (by simp [resP, St.box?, PF.get, loadB, TyK.agg, *]; rfl) (List.nil_sublist _) ?_
              exact ⟨by rw [HE.out]; simp [tupP, PV.norm2, PV.norm1, PV.norm0], rfl⟩
end Go.Proofs.Ytffgfjnbgplckaa

namespace Go.Proofs.Ytffgfjnbgplckaa
open Go.RowKit
set_option maxRecDepth 100000
theorem rtright6_p (d : Dc) : PCalls Try.prog 32 [aggD d] [] fun p s => p = .d (.v (.bool (rightD d))) ∧ s = [] := PCalls.flat trivial fun K w vs ha => by
  obtain ⟨v, rfl, hv⟩ := ha.one
  obtain ⟨cs, rfl, hc⟩ := rep_rel hv
  exact rdright_any _ d cs w hc
theorem filesL_len_take (l : List Dc) (k : Nat) : (filesL (l.take k)).length ≤ (filesL l).length := by
  have := filesL_app (l.take k) (l.drop k)
  rw [List.take_append_drop] at this
  rw [this]; simp
theorem decl_len {d : Dc} (h : rightD d = true) : (declL d).length ≤ 1000000000 := by
  unfold rightD at h
  simp only [Bool.and_eq_true, decide_eq_true_eq] at h
  obtain ⟨⟨⟨⟨⟨⟨⟨⟨hk, hn⟩, hty⟩, hte⟩, hco⟩, -⟩, -⟩, hrl⟩, hro⟩ := h
  unfold bindsB at hte hco
  simp only [Bool.and_eq_true, decide_eq_true_eq] at hte hco
  have h1 := teles_len d.tele fun b hb => List.all_eq_true.1 hte.2 b hb
  have h2 := cons_len d.cons fun b hb => List.all_eq_true.1 hco.2 b hb
  have h3 := rows_len d.rows fun b hb => List.all_eq_true.1 hro b hb
  have h4 := rightN_len hn
  have h5 := exprB_len hty
  have h6 : (kwL d.kind).length ≤ 10 := by
    unfold kwL; repeat' split
    all_goals decide
  unfold declL
  simp only [List.length_append, List.length_cons, List.length_nil]; omega
end Go.Proofs.Ytffgfjnbgplckaa

namespace Go.Proofs.Ytffgfjnbgplckaa
open Go.RowKit
set_option maxRecDepth 100000
set_option maxHeartbeats 8000000 in
theorem rfile_p (l : List Dc) (hl : l.length ≤ 1000000) : PCalls Try.prog 45 [.d (slD l)] [] fun p s => p = fileR l ∧ s = [] := by
  have HE := Lib.hid (show fileR l = if l.all rightD then textP (filesL l) else .tup [.d (.v (.string ⟨#[]⟩)), .d (.v (.int .i64 5))] from rfl)
  generalize fileR l = q at *
  simp only [slD]
  refine PCalls.enter Try.func45 rfl Try.ntmps45 (by simp) ?_
  simp only [argsF]
  repeat (first | (with_reducible first | refine Qa ?_ | refine Qb ?_ | refine Qc ?_ | refine Qd ?_ | refine Qe ?_ | refine Qf ?_ | refine Qg ?_ | refine Qh ?_ | refine Qi ?_ | refine Qj ?_ | refine Qk ?_ | refine Ql ?_ | refine Qm ?_ | refine Qn ?_ | refine Qo ?_ | refine Qp rfl ?_) | (first | refine Qq ?_ | refine Qr ?_) | (first | refine Qs ?_ | refine Qt ?_ | refine Qu ?_) | (first | refine Qv ?_ | refine Qw ?_) | (first | refine Qx ?_ | refine Qy ?_) | (first | refine Qz ?_ | refine Ra ?_ | refine Rb ?_))
  refine PW_loop (ι := Nat) (fun k => k ≤ l.length ∧ (l.take k).all rightD = true) (fun k => [(0, .d (.sl (l.map encD))), (4, .d (.v (.int .i64 k)))]) (fun _ => []) (fun k => l.length - k) 0 ⟨Nat.zero_le _, by simp⟩ ?_ ?_ ?_
  · repeat (first | exact sub_nil _ | refine sub_cons (by simp [PF.get]; rfl) (by first | rfl | (simp [*]; done) | fail) ?_)
  · repeat (first | exact List.Sublist.refl _ | exact List.nil_sublist _ | refine List.Sublist.cons_cons _ ?_ | refine List.Sublist.cons _ ?_)
  · rintro k ⟨hk, hall⟩
    by_cases hlt : k < l.length
    · have hx := get_enc hlt
      have hc : ((k : Int) < (l.length : Int)) := by omega
      have hn : (0 : Int) ≤ (k : Int) := by omega
      have hin := wrap_next hlt (by omega)
      have HA := Lib.hid hall
      clear hall
      repeat (first | (with_reducible first | refine Qa ?_ | refine Qb ?_ | refine Qc ?_ | refine Qd ?_ | refine Qe ?_ | refine Qf ?_ | refine Qg ?_ | refine Qh ?_ | refine Qi ?_ | refine Qj ?_ | refine Qk ?_ | refine Ql ?_ | refine Qm ?_ | refine Qn ?_ | refine Qo ?_ | refine Qp rfl ?_) | (first | refine Qq ?_ | refine Qr ?_) | (first | refine Qs ?_ | refine Qt ?_ | refine Qu ?_) | (first | refine Qv ?_ | refine Qw ?_) | (first | refine Qx ?_ | refine Qy ?_) | (first | refine Qz ?_ | refine Ra ?_ | refine Rb ?_))
      refine POps_call_a (rtright6_p l[k]) ?_
      cases hr : rightD l[k] with
      | true =>
        have HR := Lib.hid hr
        clear hr
        repeat (first | (with_reducible first | refine Qa ?_ | refine Qb ?_ | refine Qc ?_ | refine Qd ?_ | refine Qe ?_ | refine Qf ?_ | refine Qg ?_ | refine Qh ?_ | refine Qi ?_ | refine Qj ?_ | refine Qk ?_ | refine Ql ?_ | refine Qm ?_ | refine Qn ?_ | refine Qo ?_ | refine Qp rfl ?_) | (first | refine Qq ?_ | refine Qr ?_) | (first | refine Qs ?_ | refine Qt ?_ | refine Qu ?_) | (first | refine Qv ?_ | refine Qw ?_) | (first | refine Qx ?_ | refine Qy ?_) | (first | refine Qz ?_ | refine Ra ?_ | refine Rb ?_))
        refine ⟨k + 1, ⟨by omega, ?_⟩, by omega, ?_, ?_⟩
        · rw [all_take_g rightD l k hlt, HA.out, HR.out]; rfl
        · repeat (first | exact sub_nil _ | refine sub_cons (by simp [PF.get]; rfl) (by first | rfl | (simp [hin]; done) | fail) ?_)
        · repeat (first | exact List.Sublist.refl _ | exact List.nil_sublist _ | refine List.Sublist.cons_cons _ ?_ | refine List.Sublist.cons _ ?_)
      | false =>
        have hno : l.all rightD = false := all_false_g k hlt hr
        rw [hno] at HE
        clear hno
        have HR := Lib.hid hr
        clear hr
        repeat (first | (with_reducible first | refine Qa ?_ | refine Qb ?_ | refine Qc ?_ | refine Qd ?_ | refine Qe ?_ | refine Qf ?_ | refine Qg ?_ | refine Qh ?_ | refine Qi ?_ | refine Qj ?_ | refine Qk ?_ | refine Ql ?_ | refine Qm ?_ | refine Qn ?_ | refine Qo ?_ | refine Qp rfl ?_) | (first | refine Qq ?_ | refine Qr ?_) | (first | refine Qs ?_ | refine Qt ?_ | refine Qu ?_) | (first | refine Qv ?_ | refine Qw ?_) | (first | refine Qx ?_ | refine Qy ?_) | (first | refine Qz ?_ | refine Ra ?_ | refine Rb ?_))
        refine retP_ok (by simp) (by simp only [Try.results45]; rfl) (by simp [resP, St.box?, PF.get, loadB, TyK.agg, *]; rfl) (List.nil_sublist _) ?_
        exact ⟨HE.out.symm, rfl⟩
    · have hc : ¬ ((k : Int) < (l.length : Int)) := by omega
      rw [List.take_of_length_le (by omega)] at hall
      rw [hall] at HE
      have HD := Lib.hid (fun (k : Nat) (h : k < l.length) => And.intro (rdecl6_p _ (List.all_eq_true.1 hall _ (List.getElem_mem h))) (decl_len (List.all_eq_true.1 hall _ (List.getElem_mem h))))
      clear hall
      repeat (first | (with_reducible first | refine Qa ?_ | refine Qb ?_ | refine Qc ?_ | refine Qd ?_ | refine Qe ?_ | refine Qf ?_ | refine Qg ?_ | refine Qh ?_ | refine Qi ?_ | refine Qj ?_ | refine Qk ?_ | refine Ql ?_ | refine Qm ?_ | refine Qn ?_ | refine Qo ?_ | refine Qp rfl ?_) | (first | refine Qq ?_ | refine Qr ?_) | (first | refine Qs ?_ | refine Qt ?_ | refine Qu ?_) | (first | refine Qv ?_ | refine Qw ?_) | (first | refine Qx ?_ | refine Qy ?_) | (first | refine Qz ?_ | refine Ra ?_ | refine Rb ?_))
      refine PW_loop (ι := Nat) (fun k => k ≤ l.length ∧ (filesL (l.take k)).length ≤ 65535) (fun k => [(0, .d (.sl (l.map encD))), (5, .d (.v (.string (strB (filesL (l.take k)))))), (6, .d (.v (.int .i64 k)))]) (fun _ => []) (fun k => l.length - k) 0 ⟨Nat.zero_le _, by simp [filesL]⟩ ?_ ?_ ?_
      · refine sub_cons (by simp [PF.get] <;> rfl) rfl ?_
        refine sub_cons (by simp [PF.get] <;> rfl) (by simp [filesL]; rfl) ?_
        repeat (first | exact sub_nil _ | refine sub_cons (by simp [PF.get]; rfl) (by first | rfl | (simp [*]; done) | fail) ?_)
      · repeat (first | exact List.Sublist.refl _ | exact List.nil_sublist _ | refine List.Sublist.cons_cons _ ?_ | refine List.Sublist.cons _ ?_)
      · clear hlt hc hk
        rintro k ⟨hk, hlen⟩
        by_cases hlt : k < l.length
        · obtain ⟨e1, e2⟩ := HD.out k hlt
          unfold RdC at e1
          have hx := get_enc hlt
          have hc : ((k : Int) < (l.length : Int)) := by omega
          have hn : (0 : Int) ≤ (k : Int) := by omega
          have hin := wrap_next hlt (by omega)
          have HT := Lib.hid (filesL_take hlt)
          have HZ := Lib.hid (strB_size (filesL (l.take k) ++ declL l[k]))
          repeat (first | (with_reducible first | refine Qa ?_ | refine Qb ?_ | refine Qc ?_ | refine Qd ?_ | refine Qe ?_ | refine Qf ?_ | refine Qg ?_ | refine Qh ?_ | refine Qi ?_ | refine Qj ?_ | refine Qk ?_ | refine Ql ?_ | refine Qm ?_ | refine Qn ?_ | refine Qo ?_ | refine Qp rfl ?_) | (first | refine Qq ?_ | refine Qr ?_) | (first | refine Qs ?_ | refine Qt ?_ | refine Qu ?_) | (first | refine Qv ?_ | refine Qw ?_) | (first | refine Qx ?_ | refine Qy ?_) | (first | refine Qz ?_ | refine Ra ?_ | refine Rb ?_))
          refine POps_call_a (e1) ?_
          refine POps_cat_a ?_
          by_cases hbig : (65535 : Int) < ((strB (filesL (l.take k) ++ declL l[k])).size : Int)
          · repeat (first | (with_reducible first | refine Qa ?_ | refine Qb ?_ | refine Qc ?_ | refine Qd ?_ | refine Qe ?_ | refine Qf ?_ | refine Qg ?_ | refine Qh ?_ | refine Qi ?_ | refine Qj ?_ | refine Qk ?_ | refine Ql ?_ | refine Qm ?_ | refine Qn ?_ | refine Qo ?_ | refine Qp rfl ?_) | (first | refine Qq ?_ | refine Qr ?_) | (first | refine Qs ?_ | refine Qt ?_ | refine Qu ?_) | (first | refine Qv ?_ | refine Qw ?_) | (first | refine Qx ?_ | refine Qy ?_) | (first | refine Qz ?_ | refine Ra ?_ | refine Rb ?_))
            refine retP_ok (by simp) (by simp only [Try.results45]; rfl) (by simp [resP, St.box?, PF.get, loadB, TyK.agg, *]; rfl) (List.nil_sublist _) ?_
            have h1 := filesL_len_take l (k + 1)
            rw [HT.out] at h1
            rw [HZ.out] at hbig
            refine ⟨?_, rfl⟩
            rw [HE.out, if_pos rfl, textP, if_neg (by omega)]
            rfl
          · repeat (first | (with_reducible first | refine Qa ?_ | refine Qb ?_ | refine Qc ?_ | refine Qd ?_ | refine Qe ?_ | refine Qf ?_ | refine Qg ?_ | refine Qh ?_ | refine Qi ?_ | refine Qj ?_ | refine Qk ?_ | refine Ql ?_ | refine Qm ?_ | refine Qn ?_ | refine Qo ?_ | refine Qp rfl ?_) | (first | refine Qq ?_ | refine Qr ?_) | (first | refine Qs ?_ | refine Qt ?_ | refine Qu ?_) | (first | refine Qv ?_ | refine Qw ?_) | (first | refine Qx ?_ | refine Qy ?_) | (first | refine Qz ?_ | refine Ra ?_ | refine Rb ?_))
            refine ⟨k + 1, ⟨by omega, ?_⟩, by omega, ?_, ?_⟩
            · rw [HT.out]; rw [HZ.out] at hbig; omega
            · refine sub_cons (by simp [PF.get] <;> rfl) rfl ?_
              refine sub_cons (by simp [PF.get] <;> rfl) (by rw [HT.out]) ?_
              repeat (first | exact sub_nil _ | refine sub_cons (by simp [PF.get]; rfl) (by first | rfl | (simp [hin]; done) | fail) ?_)
            · repeat (first | exact List.Sublist.refl _ | exact List.nil_sublist _ | refine List.Sublist.cons_cons _ ?_ | refine List.Sublist.cons _ ?_)
        · have hc : ¬ ((k : Int) < (l.length : Int)) := by omega
          rw [List.take_of_length_le (by omega)] at hlen ⊢
          repeat (first | (with_reducible first | refine Qa ?_ | refine Qb ?_ | refine Qc ?_ | refine Qd ?_ | refine Qe ?_ | refine Qf ?_ | refine Qg ?_ | refine Qh ?_ | refine Qi ?_ | refine Qj ?_ | refine Qk ?_ | refine Ql ?_ | refine Qm ?_ | refine Qn ?_ | refine Qo ?_ | refine Qp rfl ?_) | (first | refine Qq ?_ | refine Qr ?_) | (first | refine Qs ?_ | refine Qt ?_ | refine Qu ?_) | (first | refine Qv ?_ | refine Qw ?_) | (first | refine Qx ?_ | refine Qy ?_) | (first | refine Qz ?_ | refine Ra ?_ | refine Rb ?_))
          refine retP_ok (by simp) (by simp only [Try.results45]; rfl) (by simp [resP, St.box?, PF.get, loadB, TyK.agg, *]; rfl) (List.nil_sublist _) ?_
          refine ⟨?_, rfl⟩
          rw [HE.out, if_pos rfl, textP, if_pos hlen]
          rfl
end Go.Proofs.Ytffgfjnbgplckaa

namespace Go.Proofs.Ytffgfjnbgplckaa
open Go.RowKit
set_option maxRecDepth 100000
theorem list11' {l : List PV} (h : l.length = 11) : ∃ p0 p1 p2 p3 p4 p5 p6 p7 p8 p9 p10, l = [p0, p1, p2, p3, p4, p5, p6, p7, p8, p9, p10] := by
  match l, h with
  | [p0, p1, p2, p3, p4, p5, p6, p7, p8, p9, p10], _ => exact ⟨p0, p1, p2, p3, p4, p5, p6, p7, p8, p9, p10, rfl⟩
theorem decl6_ok {d : Dc} (h : okDc6 d = true) : PCalls Try.prog 43 [aggD d] [] fun p s => p = .tup [aggD d, .d (.v (.bool true))] ∧ s = [] :=
  (decl6_p d).mono fun p s ⟨⟨q, h1, _, _, h2⟩, h3⟩ => ⟨by rw [h1, h2 h, h]; rfl, h3⟩
theorem decl6_any (d : Dc) : PCalls Try.prog 43 [aggD d] [] fun p s => (∃ q, p = .tup [.agg q, .d (.v (.bool (okDc6 d)))] ∧ q.length = 11 ∧ q.all PV.one = true) ∧ s = [] :=
  (decl6_p d).mono fun p s ⟨⟨q, h1, h4, h5, h2⟩, h3⟩ => ⟨⟨q, h1, h4, h5⟩, h3⟩
theorem fileR_tup (l : List Dc) : ∃ s e, fileR l = .tup [.d (.v (.string s)), .d (.v (.int .i64 e))] := by
  unfold fileR
  split
  · exact textP_tup _
  · exact ⟨_, _, rfl⟩
set_option maxHeartbeats 8000000 in
theorem printFiles_p (l : List Dc) : PCalls Try.prog 11 [.d (slD l)] [] fun p s => p = .d (.v (.bool true)) ∧ s = [] := by
  simp only [slD]
  refine PCalls.enter Try.func11 rfl Try.ntmps11 (by simp) ?_
  simp only [argsF]
  repeat (first | (with_reducible first | refine Qa ?_ | refine Qb ?_ | refine Qc ?_ | refine Qd ?_ | refine Qe ?_ | refine Qf ?_ | refine Qg ?_ | refine Qh ?_ | refine Qi ?_ | refine Qj ?_ | refine Qk ?_ | refine Ql ?_ | refine Qm ?_ | refine Qn ?_ | refine Qo ?_ | refine Qp rfl ?_) | (first | refine Qq ?_ | refine Qr ?_) | (first | refine Qs ?_ | refine Qt ?_ | refine Qu ?_) | (first | refine Qv ?_ | refine Qw ?_) | (first | refine Qx ?_ | refine Qy ?_) | (first | refine Qz ?_ | refine Ra ?_ | refine Rb ?_))
  refine POps_bs0 ?_ (by decide) (by first | (simp [nev, nevA, nevB, evBuild, PF.eval, PF.get, PF.wants, cPV, cCell, PV.rows, evBin, evUn, evConv, evLen, loadA, loadB, TyK.agg, partA, St.box?, St.tok?, St.setBox, St.setTok, fillO, spl, PV.ps, PV.one, evalArgs, aggD, slD, encD_nd, encD_bd, encD_rw, encD_dc, encD_str, encD_int, *]; done) | fail) (by simp; rfl) (by rfl) (by simp; rfl) (by rfl) (by decide)
  intro g hg
  repeat (first | (with_reducible first | refine Qa ?_ | refine Qb ?_ | refine Qc ?_ | refine Qd ?_ | refine Qe ?_ | refine Qf ?_ | refine Qg ?_ | refine Qh ?_ | refine Qi ?_ | refine Qj ?_ | refine Qk ?_ | refine Ql ?_ | refine Qm ?_ | refine Qn ?_ | refine Qo ?_ | refine Qp rfl ?_) | (first | refine Qq ?_ | refine Qr ?_) | (first | refine Qs ?_ | refine Qt ?_ | refine Qu ?_) | (first | refine Qv ?_ | refine Qw ?_) | (first | refine Qx ?_ | refine Qy ?_) | (first | refine Qz ?_ | refine Ra ?_ | refine Rb ?_))
  refine PW_loop (ι := Nat) (fun k => k ≤ l.length ∧ k ≤ 6 ∧ (l.take k).all okDc6 = true) (fun k => [(0, .d (.sl (l.map encD))), (3, .own g ((l.map encD).take k)), (4, .d (.v (.int .i64 k)))]) (fun k => [.tok g 53 11 k]) (fun k => l.length - k) 0 ⟨Nat.zero_le _, by decide, by simp⟩ ?_ ?_ ?_
  · repeat (first | exact sub_nil _ | refine sub_cons (by simp [PF.get]; rfl) (by first | rfl | (simp [*]; done) | fail) ?_)
  · repeat (first | exact List.Sublist.refl _ | exact List.nil_sublist _ | refine List.Sublist.cons_cons _ ?_ | refine List.Sublist.cons _ ?_)
  · rintro k ⟨hk, h6, hall⟩
    have HALL := Lib.hid hall
    clear hall
    by_cases h : k < l.length
    · have hx := get_enc h
      have hc : (k : Int) < (l.length : Int) := by omega
      have hn : (0 : Int) ≤ (k : Int) := by omega
      have hin := wrap_next h (n := l.length)
      have hin2 : IntKind.i64.wrap ((k : Int) + 1) = ((k + 1 : Nat) : Int) := IntWalk.i64_in _ (by omega)
      clear hin
      cases hok : okDc6 l[k] with
      | false =>
        repeat (first | (with_reducible first | refine Qa ?_ | refine Qb ?_ | refine Qc ?_ | refine Qd ?_ | refine Qe ?_ | refine Qf ?_ | refine Qg ?_ | refine Qh ?_ | refine Qi ?_ | refine Qj ?_ | refine Qk ?_ | refine Ql ?_ | refine Qm ?_ | refine Qn ?_ | refine Qo ?_ | refine Qp rfl ?_) | (first | refine Qq ?_ | refine Qr ?_) | (first | refine Qs ?_ | refine Qt ?_ | refine Qu ?_) | (first | refine Qv ?_ | refine Qw ?_) | (first | refine Qx ?_ | refine Qy ?_) | (first | refine Qz ?_ | refine Ra ?_ | refine Rb ?_))
        refine POps_callR_a (decl6_any l[k]) ?_
        rintro r ⟨q, rfl, hq, ho⟩
        obtain ⟨p0, p1, p2, p3, p4, p5, p6, p7, p8, p9, p10, rfl⟩ := list11' hq
        simp only [List.all_cons, List.all_nil, Bool.and_true, Bool.and_eq_true] at ho
        repeat (first | (with_reducible first | refine Qa ?_ | refine Qb ?_ | refine Qc ?_ | refine Qd ?_ | refine Qe ?_ | refine Qf ?_ | refine Qg ?_ | refine Qh ?_ | refine Qi ?_ | refine Qj ?_ | refine Qk ?_ | refine Ql ?_ | refine Qm ?_ | refine Qn ?_ | refine Qo ?_ | refine Qp rfl ?_) | (first | refine Qq ?_ | refine Qr ?_) | (first | refine Qs ?_ | refine Qt ?_ | refine Qu ?_) | (first | refine Qv ?_ | refine Qw ?_) | (first | refine Qx ?_ | refine Qy ?_) | (first | refine Qz ?_ | refine Ra ?_ | refine Rb ?_))
        refine POps_alloc_a ?_
        intro i1 hi1
        repeat (first | (with_reducible first | refine Qa ?_ | refine Qb ?_ | refine Qc ?_ | refine Qd ?_ | refine Qe ?_ | refine Qf ?_ | refine Qg ?_ | refine Qh ?_ | refine Qi ?_ | refine Qj ?_ | refine Qk ?_ | refine Ql ?_ | refine Qm ?_ | refine Qn ?_ | refine Qo ?_ | refine Qp rfl ?_) | (first | refine Qq ?_ | refine Qr ?_) | (first | refine Qs ?_ | refine Qt ?_ | refine Qu ?_) | (first | refine Qv ?_ | refine Qw ?_) | (first | refine Qx ?_ | refine Qy ?_) | (first | refine Qz ?_ | refine Ra ?_ | refine Rb ?_))
        refine Rc ?_
        repeat (first | (with_reducible first | refine Qa ?_ | refine Qb ?_ | refine Qc ?_ | refine Qd ?_ | refine Qe ?_ | refine Qf ?_ | refine Qg ?_ | refine Qh ?_ | refine Qi ?_ | refine Qj ?_ | refine Qk ?_ | refine Ql ?_ | refine Qm ?_ | refine Qn ?_ | refine Qo ?_ | refine Qp rfl ?_) | (first | refine Qq ?_ | refine Qr ?_) | (first | refine Qs ?_ | refine Qt ?_ | refine Qu ?_) | (first | refine Qv ?_ | refine Qw ?_) | (first | refine Qx ?_ | refine Qy ?_) | (first | refine Qz ?_ | refine Ra ?_ | refine Rb ?_))
        refine POps_call_a (awake6_p) ?_
        repeat (first | (with_reducible first | refine Qa ?_ | refine Qb ?_ | refine Qc ?_ | refine Qd ?_ | refine Qe ?_ | refine Qf ?_ | refine Qg ?_ | refine Qh ?_ | refine Qi ?_ | refine Qj ?_ | refine Qk ?_ | refine Ql ?_ | refine Qm ?_ | refine Qn ?_ | refine Qo ?_ | refine Qp rfl ?_) | (first | refine Qq ?_ | refine Qr ?_) | (first | refine Qs ?_ | refine Qt ?_ | refine Qu ?_) | (first | refine Qv ?_ | refine Qw ?_) | (first | refine Qx ?_ | refine Qy ?_) | (first | refine Qz ?_ | refine Ra ?_ | refine Rb ?_))
        refine retP_ok (by simp) (by simp only [Try.results11]; rfl) (by simp [resP, St.box?, PF.get, loadB, TyK.agg, *]; rfl) (List.nil_sublist _) ?_
        exact ⟨rfl, rfl⟩
      | true =>
        have HOK := Lib.hid (decl6_ok hok)
        have HT := Lib.hid (show ((l.take (k + 1)).all okDc6) = true by rw [List.take_succ_eq_append_getElem h, List.all_append, HALL.out]; simp [hok])
        have HR := Lib.hid (rows_next (f := encD) h)
        rw [encD_dc l[k]] at HR
        clear hok
        by_cases hk6 : k = 6
        · have hk6' : (6 : Int) ≤ (k : Int) := by omega
          have hk6'' : 6 ≤ k := by omega
          clear hk6
          repeat (first | (with_reducible first | refine Qa ?_ | refine Qb ?_ | refine Qc ?_ | refine Qd ?_ | refine Qe ?_ | refine Qf ?_ | refine Qg ?_ | refine Qh ?_ | refine Qi ?_ | refine Qj ?_ | refine Qk ?_ | refine Ql ?_ | refine Qm ?_ | refine Qn ?_ | refine Qo ?_ | refine Qp rfl ?_) | (first | refine Qq ?_ | refine Qr ?_) | (first | refine Qs ?_ | refine Qt ?_ | refine Qu ?_) | (first | refine Qv ?_ | refine Qw ?_) | (first | refine Qx ?_ | refine Qy ?_) | (first | refine Qz ?_ | refine Ra ?_ | refine Rb ?_))
          refine POps_call_a (HOK.out) ?_
          repeat (first | (with_reducible first | refine Qa ?_ | refine Qb ?_ | refine Qc ?_ | refine Qd ?_ | refine Qe ?_ | refine Qf ?_ | refine Qg ?_ | refine Qh ?_ | refine Qi ?_ | refine Qj ?_ | refine Qk ?_ | refine Ql ?_ | refine Qm ?_ | refine Qn ?_ | refine Qo ?_ | refine Qp rfl ?_) | (first | refine Qq ?_ | refine Qr ?_) | (first | refine Qs ?_ | refine Qt ?_ | refine Qu ?_) | (first | refine Qv ?_ | refine Qw ?_) | (first | refine Qx ?_ | refine Qy ?_) | (first | refine Qz ?_ | refine Ra ?_ | refine Rb ?_))
          refine POps_alloc_a ?_
          intro i1 hi1
          repeat (first | (with_reducible first | refine Qa ?_ | refine Qb ?_ | refine Qc ?_ | refine Qd ?_ | refine Qe ?_ | refine Qf ?_ | refine Qg ?_ | refine Qh ?_ | refine Qi ?_ | refine Qj ?_ | refine Qk ?_ | refine Ql ?_ | refine Qm ?_ | refine Qn ?_ | refine Qo ?_ | refine Qp rfl ?_) | (first | refine Qq ?_ | refine Qr ?_) | (first | refine Qs ?_ | refine Qt ?_ | refine Qu ?_) | (first | refine Qv ?_ | refine Qw ?_) | (first | refine Qx ?_ | refine Qy ?_) | (first | refine Qz ?_ | refine Ra ?_ | refine Rb ?_))
          refine Rc ?_
          repeat (first | (with_reducible first | refine Qa ?_ | refine Qb ?_ | refine Qc ?_ | refine Qd ?_ | refine Qe ?_ | refine Qf ?_ | refine Qg ?_ | refine Qh ?_ | refine Qi ?_ | refine Qj ?_ | refine Qk ?_ | refine Ql ?_ | refine Qm ?_ | refine Qn ?_ | refine Qo ?_ | refine Qp rfl ?_) | (first | refine Qq ?_ | refine Qr ?_) | (first | refine Qs ?_ | refine Qt ?_ | refine Qu ?_) | (first | refine Qv ?_ | refine Qw ?_) | (first | refine Qx ?_ | refine Qy ?_) | (first | refine Qz ?_ | refine Ra ?_ | refine Rb ?_))
          refine POps_call_a (awake6_p) ?_
          repeat (first | (with_reducible first | refine Qa ?_ | refine Qb ?_ | refine Qc ?_ | refine Qd ?_ | refine Qe ?_ | refine Qf ?_ | refine Qg ?_ | refine Qh ?_ | refine Qi ?_ | refine Qj ?_ | refine Qk ?_ | refine Ql ?_ | refine Qm ?_ | refine Qn ?_ | refine Qo ?_ | refine Qp rfl ?_) | (first | refine Qq ?_ | refine Qr ?_) | (first | refine Qs ?_ | refine Qt ?_ | refine Qu ?_) | (first | refine Qv ?_ | refine Qw ?_) | (first | refine Qx ?_ | refine Qy ?_) | (first | refine Qz ?_ | refine Ra ?_ | refine Rb ?_))
          refine retP_ok (by simp) (by simp only [Try.results11]; rfl) (by simp [resP, St.box?, PF.get, loadB, TyK.agg, *]; rfl) (List.nil_sublist _) ?_
          exact ⟨rfl, rfl⟩
        · have hk6' : ¬ (6 : Int) ≤ (k : Int) := by omega
          have hk6'' : ¬ 6 ≤ k := by omega
          repeat (first | (with_reducible first | refine Qa ?_ | refine Qb ?_ | refine Qc ?_ | refine Qd ?_ | refine Qe ?_ | refine Qf ?_ | refine Qg ?_ | refine Qh ?_ | refine Qi ?_ | refine Qj ?_ | refine Qk ?_ | refine Ql ?_ | refine Qm ?_ | refine Qn ?_ | refine Qo ?_ | refine Qp rfl ?_) | (first | refine Qq ?_ | refine Qr ?_) | (first | refine Qs ?_ | refine Qt ?_ | refine Qu ?_) | (first | refine Qv ?_ | refine Qw ?_) | (first | refine Qx ?_ | refine Qy ?_) | (first | refine Qz ?_ | refine Ra ?_ | refine Rb ?_))
          refine POps_call_a (HOK.out) ?_
          repeat (first | (with_reducible first | refine Qa ?_ | refine Qb ?_ | refine Qc ?_ | refine Qd ?_ | refine Qe ?_ | refine Qf ?_ | refine Qg ?_ | refine Qh ?_ | refine Qi ?_ | refine Qj ?_ | refine Qk ?_ | refine Ql ?_ | refine Qm ?_ | refine Qn ?_ | refine Qo ?_ | refine Qp rfl ?_) | (first | refine Qq ?_ | refine Qr ?_) | (first | refine Qs ?_ | refine Qt ?_ | refine Qu ?_) | (first | refine Qv ?_ | refine Qw ?_) | (first | refine Qx ?_ | refine Qy ?_) | (first | refine Qz ?_ | refine Ra ?_ | refine Rb ?_))
          refine POps_alloc_a ?_
          intro i1 hi1
          simp only [St.freshB_tok, St.freshB_nil] at hi1
          repeat (first | (with_reducible first | refine Qa ?_ | refine Qb ?_ | refine Qc ?_ | refine Qd ?_ | refine Qe ?_ | refine Qf ?_ | refine Qg ?_ | refine Qh ?_ | refine Qi ?_ | refine Qj ?_ | refine Qk ?_ | refine Ql ?_ | refine Qm ?_ | refine Qn ?_ | refine Qo ?_ | refine Qp rfl ?_) | (first | refine Qq ?_ | refine Qr ?_) | (first | refine Qs ?_ | refine Qt ?_ | refine Qu ?_) | (first | refine Qv ?_ | refine Qw ?_) | (first | refine Qx ?_ | refine Qy ?_) | (first | refine Qz ?_ | refine Ra ?_ | refine Rb ?_))
          refine Rc ?_
          repeat (first | (with_reducible first | refine Qa ?_ | refine Qb ?_ | refine Qc ?_ | refine Qd ?_ | refine Qe ?_ | refine Qf ?_ | refine Qg ?_ | refine Qh ?_ | refine Qi ?_ | refine Qj ?_ | refine Qk ?_ | refine Ql ?_ | refine Qm ?_ | refine Qn ?_ | refine Qo ?_ | refine Qp rfl ?_) | (first | refine Qq ?_ | refine Qr ?_) | (first | refine Qs ?_ | refine Qt ?_ | refine Qu ?_) | (first | refine Qv ?_ | refine Qw ?_) | (first | refine Qx ?_ | refine Qy ?_) | (first | refine Qz ?_ | refine Ra ?_ | refine Rb ?_))
          refine POps_bs_a ?_
          refine POps_app_a (k + 1) ?_ ?_ ?_ ?_
          · simp; omega
          · exact rows_take fun _ => encD_len _
          · exact rows_one rfl
          repeat (first | (with_reducible first | refine Qa ?_ | refine Qb ?_ | refine Qc ?_ | refine Qd ?_ | refine Qe ?_ | refine Qf ?_ | refine Qg ?_ | refine Qh ?_ | refine Qi ?_ | refine Qj ?_ | refine Qk ?_ | refine Ql ?_ | refine Qm ?_ | refine Qn ?_ | refine Qo ?_ | refine Qp rfl ?_) | (first | refine Qq ?_ | refine Qr ?_) | (first | refine Qs ?_ | refine Qt ?_ | refine Qu ?_) | (first | refine Qv ?_ | refine Qw ?_) | (first | refine Qx ?_ | refine Qy ?_) | (first | refine Qz ?_ | refine Ra ?_ | refine Rb ?_))
          refine ⟨k + 1, ⟨by omega, by omega, HT.out⟩, by omega, ?_, ?_⟩
          · repeat (first | exact sub_nil _ | refine sub_cons (by simp [PF.get]; rfl) (by first | rfl | (simp [HR.out, hin2]; done) | fail) ?_)
          · repeat (first | exact List.Sublist.refl _ | exact List.nil_sublist _ | refine List.Sublist.cons_cons _ ?_ | refine List.Sublist.cons _ ?_)
    · have hc : ¬ ((k : Int) < (l.length : Int)) := by omega
      have HT : (l.map encD).take k = l.map encD := List.take_of_length_le (by rw [List.length_map]; omega)
      rw [HT]
      clear HT
      have hll : l.length ≤ 6 := by omega
      obtain ⟨s, e, he⟩ := fileR_tup l
      have HF := file_p l (by omega)
      have HG := rfile_p l (by omega)
      rw [he] at HF HG
      have H1 := Lib.hid HF
      have H2 := Lib.hid HG
      clear HF HG he
      unfold slD at H1 H2
      repeat (first | (with_reducible first | refine Qa ?_ | refine Qb ?_ | refine Qc ?_ | refine Qd ?_ | refine Qe ?_ | refine Qf ?_ | refine Qg ?_ | refine Qh ?_ | refine Qi ?_ | refine Qj ?_ | refine Qk ?_ | refine Ql ?_ | refine Qm ?_ | refine Qn ?_ | refine Qo ?_ | refine Qp rfl ?_) | (first | refine Qq ?_ | refine Qr ?_) | (first | refine Qs ?_ | refine Qt ?_ | refine Qu ?_) | (first | refine Qv ?_ | refine Qw ?_) | (first | refine Qx ?_ | refine Qy ?_) | (first | refine Qz ?_ | refine Ra ?_ | refine Rb ?_))
      refine POps_call_a (H1.out) ?_
      repeat (first | (with_reducible first | refine Qa ?_ | refine Qb ?_ | refine Qc ?_ | refine Qd ?_ | refine Qe ?_ | refine Qf ?_ | refine Qg ?_ | refine Qh ?_ | refine Qi ?_ | refine Qj ?_ | refine Qk ?_ | refine Ql ?_ | refine Qm ?_ | refine Qn ?_ | refine Qo ?_ | refine Qp rfl ?_) | (first | refine Qq ?_ | refine Qr ?_) | (first | refine Qs ?_ | refine Qt ?_ | refine Qu ?_) | (first | refine Qv ?_ | refine Qw ?_) | (first | refine Qx ?_ | refine Qy ?_) | (first | refine Qz ?_ | refine Ra ?_ | refine Rb ?_))
      refine POps_call_a (H2.out) ?_
      by_cases hz : 0 < l.length
      · have hz1 : ¬ (l.length : Int) = 0 := by omega
        have hz2 : ¬ l = [] := List.ne_nil_of_length_pos hz
        have hz3 : (0 : Int) < (l.length : Int) := by omega
        have hx0 := get_enc hz
        have e1 : ((l.map encD).take 1).drop 0 = [l[0]].map encD := by
          rw [List.drop_zero, List.take_succ_eq_append_getElem (by simpa using hz)]; simp
        obtain ⟨s1, e2, he⟩ := fileR_tup [l[0]]
        have HP := pdecl_p l[0]
        have HG := rfile_p [l[0]] (by simp)
        rw [he] at HP HG
        have H3 := Lib.hid HP
        have H4 := Lib.hid HG
        have E1 := Lib.hid e1
        clear HP HG he e1
        unfold slD at H4
        have hlm : 1 ≤ (l.map encD).length := by rw [List.length_map]; exact hz
        repeat (first | (with_reducible first | refine Qa ?_ | refine Qb ?_ | refine Qc ?_ | refine Qd ?_ | refine Qe ?_ | refine Qf ?_ | refine Qg ?_ | refine Qh ?_ | refine Qi ?_ | refine Qj ?_ | refine Qk ?_ | refine Ql ?_ | refine Qm ?_ | refine Qn ?_ | refine Qo ?_ | refine Qp rfl ?_) | (first | refine Qq ?_ | refine Qr ?_) | (first | refine Qs ?_ | refine Qt ?_ | refine Qu ?_) | (first | refine Qv ?_ | refine Qw ?_) | (first | refine Qx ?_ | refine Qy ?_) | (first | refine Qz ?_ | refine Ra ?_ | refine Rb ?_))
        refine POps_call_a (H3.out) ?_
        repeat (first | (with_reducible first | refine Qa ?_ | refine Qb ?_ | refine Qc ?_ | refine Qd ?_ | refine Qe ?_ | refine Qf ?_ | refine Qg ?_ | refine Qh ?_ | refine Qi ?_ | refine Qj ?_ | refine Qk ?_ | refine Ql ?_ | refine Qm ?_ | refine Qn ?_ | refine Qo ?_ | refine Qp rfl ?_) | (first | refine Qq ?_ | refine Qr ?_) | (first | refine Qs ?_ | refine Qt ?_ | refine Qu ?_) | (first | refine Qv ?_ | refine Qw ?_) | (first | refine Qx ?_ | refine Qy ?_) | (first | refine Qz ?_ | refine Ra ?_ | refine Rb ?_))
        refine POps_slice 0 1 ?_ (by decide) (by first | (simp [nev, nevA, nevB, evBuild, PF.eval, PF.get, PF.wants, cPV, cCell, PV.rows, evBin, evUn, evConv, evLen, loadA, loadB, TyK.agg, partA, St.box?, St.tok?, St.setBox, St.setTok, fillO, spl, PV.ps, PV.one, evalArgs, aggD, slD, encD_nd, encD_bd, encD_rw, encD_dc, encD_str, encD_int, *]; done) | fail) (by simp; rfl) (by rfl) (by decide) (by simp [nev, nevA, nevB, evBuild, PF.eval, PF.get, PF.wants, cPV, cCell, PV.rows, evBin, evUn, evConv, evLen, loadA, loadB, TyK.agg, partA, St.box?, St.tok?, St.setBox, St.setTok, fillO, spl, PV.ps, PV.one, evalArgs, aggD, slD, encD_nd, encD_bd, encD_rw, encD_dc, encD_str, encD_int, *]; rfl) (by simp [PV.rows]; rfl) (by first | rfl | (simp [lowOf, PF.eval, PF.get, cPV, cCell, *]; done) | fail) (by first | rfl | (simp [highOf, PF.eval, PF.get, cPV, cCell, *]; done) | fail) (by first | omega | (simp; omega)) (by first | omega | (simp; omega)) ?_
        all_goals try exact rows_of (α := Dc) rfl
        rw [E1.out]
        refine POps_call_a (H4.out) ?_
        repeat (first | (with_reducible first | refine Qa ?_ | refine Qb ?_ | refine Qc ?_ | refine Qd ?_ | refine Qe ?_ | refine Qf ?_ | refine Qg ?_ | refine Qh ?_ | refine Qi ?_ | refine Qj ?_ | refine Qk ?_ | refine Ql ?_ | refine Qm ?_ | refine Qn ?_ | refine Qo ?_ | refine Qp rfl ?_) | (first | refine Qq ?_ | refine Qr ?_) | (first | refine Qs ?_ | refine Qt ?_ | refine Qu ?_) | (first | refine Qv ?_ | refine Qw ?_) | (first | refine Qx ?_ | refine Qy ?_) | (first | refine Qz ?_ | refine Ra ?_ | refine Rb ?_))
        refine POps_call_b (awake6_p) ?_
        repeat (first | (with_reducible first | refine Qa ?_ | refine Qb ?_ | refine Qc ?_ | refine Qd ?_ | refine Qe ?_ | refine Qf ?_ | refine Qg ?_ | refine Qh ?_ | refine Qi ?_ | refine Qj ?_ | refine Qk ?_ | refine Ql ?_ | refine Qm ?_ | refine Qn ?_ | refine Qo ?_ | refine Qp rfl ?_) | (first | refine Qq ?_ | refine Qr ?_) | (first | refine Qs ?_ | refine Qt ?_ | refine Qu ?_) | (first | refine Qv ?_ | refine Qw ?_) | (first | refine Qx ?_ | refine Qy ?_) | (first | refine Qz ?_ | refine Ra ?_ | refine Rb ?_))
        refine retP_ok (by simp) (by simp only [Try.results11]; rfl) (by simp [resP, St.box?, PF.get, loadB, TyK.agg, *]; rfl) (List.nil_sublist _) ?_
        exact ⟨rfl, rfl⟩
      · have hz1 : (l.length : Int) = 0 := by omega
        have hz2 : l = [] := List.eq_nil_of_length_eq_zero (by omega)
        subst hz2
        repeat (first | (with_reducible first | refine Qa ?_ | refine Qb ?_ | refine Qc ?_ | refine Qd ?_ | refine Qe ?_ | refine Qf ?_ | refine Qg ?_ | refine Qh ?_ | refine Qi ?_ | refine Qj ?_ | refine Qk ?_ | refine Ql ?_ | refine Qm ?_ | refine Qn ?_ | refine Qo ?_ | refine Qp rfl ?_) | (first | refine Qq ?_ | refine Qr ?_) | (first | refine Qs ?_ | refine Qt ?_ | refine Qu ?_) | (first | refine Qv ?_ | refine Qw ?_) | (first | refine Qx ?_ | refine Qy ?_) | (first | refine Qz ?_ | refine Ra ?_ | refine Rb ?_))
        refine POps_call_a (awake6_p) ?_
        repeat (first | (with_reducible first | refine Qa ?_ | refine Qb ?_ | refine Qc ?_ | refine Qd ?_ | refine Qe ?_ | refine Qf ?_ | refine Qg ?_ | refine Qh ?_ | refine Qi ?_ | refine Qj ?_ | refine Qk ?_ | refine Ql ?_ | refine Qm ?_ | refine Qn ?_ | refine Qo ?_ | refine Qp rfl ?_) | (first | refine Qq ?_ | refine Qr ?_) | (first | refine Qs ?_ | refine Qt ?_ | refine Qu ?_) | (first | refine Qv ?_ | refine Qw ?_) | (first | refine Qx ?_ | refine Qy ?_) | (first | refine Qz ?_ | refine Ra ?_ | refine Rb ?_))
        refine retP_ok (by simp) (by simp only [Try.results11]; rfl) (by simp [resP, St.box?, PF.get, loadB, TyK.agg, *]; rfl) (List.nil_sublist _) ?_
        exact ⟨rfl, rfl⟩
theorem printFiles_walk (v : Value) (l : List Dc) (w : World) (hv : DcS w v l) : Calls Try.prog 11 #[v] w fun e w' => e = .returned (.bool true) ∧ Below w.heap.size w w' :=
  ((printFiles_p l).mono fun p s h => h.1).top (relVs_cons (agg_form (K := K0 w) (fun b o v _ h => ⟨v, h⟩) (by decide) hv) (relVs_nil _ _))
end Go.Proofs.Ytffgfjnbgplckaa

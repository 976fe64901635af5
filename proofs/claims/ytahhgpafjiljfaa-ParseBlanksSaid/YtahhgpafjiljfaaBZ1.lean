import Derived.Test.YtahhgpafjiljfaaBZ
import Derived.Test.YtahhgpafjiljfaaT32
set_option linter.unusedSimpArgs false
set_option linter.unusedVariables false
namespace Go.Proofs.Ytahhgpafjiljfaa
open Go.RowKit
set_option maxRecDepth 100000
def txE : Nat → ByteArray
  | 0 => ⟨#[102]⟩
  | n + 1 => txE n ++ ⟨#[32, 120]⟩
def txP : Nat → ByteArray
  | 0 => ⟨#[]⟩
  | n + 1 => txP n ++ ⟨#[120, 32]⟩
def txF : Nat → ByteArray
  | 0 => ⟨#[100, 101, 102, 32, 102, 32, 58, 32, 83, 101, 116, 32, 123]⟩
  | n + 1 => txF n ++ ⟨#[120, 59]⟩
theorem txE_size (n : Nat) : (txE n).size = 1 + 2 * n := by
  induction n with
  | zero => rfl
  | succ n ih => rw [show txE (n + 1) = txE n ++ ⟨#[32, 120]⟩ from rfl, ByteArray.size_append, ih, show (⟨#[32, 120]⟩ : ByteArray).size = 2 from rfl]; omega
theorem txP_size (n : Nat) : (txP n).size = 2 * n := by
  induction n with
  | zero => rfl
  | succ n ih => rw [show txP (n + 1) = txP n ++ ⟨#[120, 32]⟩ from rfl, ByteArray.size_append, ih, show (⟨#[120, 32]⟩ : ByteArray).size = 2 from rfl]; omega
theorem txF_size (n : Nat) : (txF n).size = 13 + 2 * n := by
  induction n with
  | zero => rfl
  | succ n ih => rw [show txF (n + 1) = txF n ++ ⟨#[120, 59]⟩ from rfl, ByteArray.size_append, ih, show (⟨#[120, 59]⟩ : ByteArray).size = 2 from rfl]; omega
theorem two_size (a b : UInt8) : (⟨#[a, b]⟩ : ByteArray).size = 2 := rfl
theorem one_size (a : UInt8) : (⟨#[a]⟩ : ByteArray).size = 1 := rfl
section
variable {P : Program} {n : Nat} {ops : Array Oper} {Q : PF → St → Prop} {rest : List Oper} {fr : PF} {st : St} {t rt ty : TypeId} {x y : Operand} {pos : String} {after : Array Edge} {gd : Option (Nat × Bool)} {d : Nat} {a b : ByteArray}
theorem nev_catS (hx : fr.eval x = some (.d (.v (.string a)))) (hy : fr.eval y = some (.d (.v (.string b)))) (hl : a.size + b.size ≤ 9223372036854775807) : nev P fr.eval (.binOp .add t x y rt) = some (.d (.v (.string (a ++ b)))) := by
  simp [nev, nevA, hx, hy, evBin, hl]
theorem POps_catS (hl : a.size + b.size ≤ 9223372036854775807) (hd : d < n) (hw : PF.wants fr ops ⟨some d, .binOp .add t x y rt, ty, pos, after, gd⟩ = some true) (hx : fr.eval x = some (.d (.v (.string a)))) (hy : fr.eval y = some (.d (.v (.string b))))
    (h : POps P n ops Q rest ((d, .d (.v (.string (a ++ b)))) :: fr) st) : POps P n ops Q (⟨some d, .binOp .add t x y rt, ty, pos, after, gd⟩ :: rest) fr st :=
  POps_gs hd hw (nev_catS hx hy hl) h
end
theorem one_decl {x : List Dc × Int × Int} {n : Nat} (h : (x.2.2 == 0 && (match x.1 with | [d] => d.rows.length == n | _ => false)) = true) : x.2.2 = 0 ∧ ∃ d, x.1 = [d] ∧ d.rows.length = n := by
  rw [Bool.and_eq_true] at h
  obtain ⟨h1, h2⟩ := h
  split at h2
  · rename_i d e
    exact ⟨by simpa using h1, d, e, by simpa using h2⟩
  · cases h2
theorem txE0 : (exprA (txE 126)).2.2 = 0 := by decide +kernel
theorem txE1 : (exprA (txE 127)).2.2 = 0 := by decide +kernel
theorem txE2 : (exprA (txE 128)).2 = (0, 2) := by decide +kernel
theorem txP0 : (patsA (txP 23)).2.2 = 0 ∧ (patsA (txP 23)).1.length = 23 := by decide +kernel
theorem txP1 : (patsA (txP 24)).2.2 = 0 ∧ (patsA (txP 24)).1.length = 24 := by decide +kernel
theorem txP2 : (patsA (txP 25)).2 = (48, 2) := by decide +kernel
theorem txF0 : (fileA (txF 31 ++ ⟨#[125]⟩)).2.2 = 0 ∧ ∃ d, (fileA (txF 31 ++ ⟨#[125]⟩)).1 = [d] ∧ d.rows.length = 31 := one_decl (by decide +kernel)
theorem txF1 : (fileA (txF 32 ++ ⟨#[125]⟩)).2.2 = 0 ∧ ∃ d, (fileA (txF 32 ++ ⟨#[125]⟩)).1 = [d] ∧ d.rows.length = 32 := one_decl (by decide +kernel)
theorem txF2 : (fileA (txF 33 ++ ⟨#[125]⟩)).2 = (77, 2) := by decide +kernel
set_option maxHeartbeats 4000000 in
theorem parseLimits_0 (k : Int) (hk : Int.tmod k 3 = 0) : PCalls Try.prog 5 [.d (.v (.int .u8 k))] [] fun p st => p = .d (.v (.bool true)) ∧ st = [] := by
  have we : IntKind.i64.wrap 127 = 127 := rfl
  have wp : IntKind.i64.wrap 23 = 23 := rfl
  have wf : IntKind.i64.wrap 31 = 31 := rfl
  have HE := Lib.hid (pexprs_p (txE 126))
  have HP := Lib.hid (ppats_p (txP 23))
  have HF := Lib.hid (file_p (txF 31 ++ ⟨#[125]⟩))
  rw [txE0] at HE
  obtain ⟨hp2, hL⟩ := txP0
  rw [hp2] at HP
  clear hp2
  obtain ⟨hf2, d, hd, hR⟩ := txF0
  rw [hf2, hd] at HF
  clear hf2 hd
  generalize (exprA (txE 126)).2.1 = ze at HE
  generalize (patsA (txP 23)).2.1 = zp at HP
  generalize (fileA (txF 31 ++ ⟨#[125]⟩)).2.1 = zf at HF
  generalize (patsA (txP 23)).1 = L at HP hL
  obtain ⟨dk, da, dn, dt, dy, dc, dr⟩ := d
  simp only at hR
  generalize (exprA (txE 126)).1 = X at HE
  have he := HE.out
  have hp := HP.out
  have hf := HF.out
  simp only [aggD, encD_nd] at he
  unfold slD at hp hf
  simp only [List.map_cons, List.map_nil, encD_dc] at hf
  clear HE HP HF
  have HE := Lib.hid he
  have HP := Lib.hid hp
  have HF := Lib.hid hf
  clear he hp hf
  refine PCalls.enter Try.func5 rfl Try.ntmps5 (by simp) ?_
  simp only [argsF]
  refine go_ ?_
  refine PW_loop (ι := Nat × Nat) (fun y => y.1 ≤ 126 ∧ y.2 = y.1 + 1) (fun y => [(3, .d (.v (.int .i64 0))), (4, .d (.v (.string (txE y.1)))), (5, .d (.v (.int .i64 (y.2 : Int))))]) (fun _ => []) (fun y => 127 - y.1) (0, 1) ⟨Nat.zero_le _, rfl⟩ ?_ ?_ ?_
  · repeat (first | exact sub_nil _ | refine sub_cons (by simp [PF.get]; rfl) (by first | rfl | (simp [*]; done) | fail) ?_)
  · repeat (first | exact List.Sublist.refl _ | exact List.nil_sublist _ | refine List.Sublist.cons_cons _ ?_ | refine List.Sublist.cons _ ?_)
  · rintro ⟨i, j⟩ ⟨hi, hj⟩
    simp only at hi hj ⊢
    have hin : IntKind.i64.wrap ((j : Int) + 1) = (j : Int) + 1 := IntWalk.i64_in _ (by omega)
    by_cases hlt : j < 127
    · have hc : (j : Int) < 127 := by omega
      have HI := Lib.hid hi
      have HJ := Lib.hid hj
      clear hi hj
      refine go_ ?_
      have hs := HI.out
      refine POps_catS (a := txE i) (b := ⟨#[32, 120]⟩) (by rw [txE_size, two_size]; omega) (by decide) (by first | (simp [nev, nevA, nevB, evBuild, PF.eval, PF.get, PF.wants, cPV, cCell, PV.rows, evBin, evUn, evConv, evLen, loadA, loadB, TyK.agg, partA, St.box?, St.tok?, St.setBox, St.setTok, fillO, spl, PV.ps, PV.one, evalArgs, aggD, slD, encD_nd, encD_bd, encD_rw, encD_dc, encD_str, encD_int, *]; done) | fail) (by simp [nev, nevA, nevB, evBuild, PF.eval, PF.get, PF.wants, cPV, cCell, PV.rows, evBin, evUn, evConv, evLen, loadA, loadB, TyK.agg, partA, St.box?, St.tok?, St.setBox, St.setTok, fillO, spl, PV.ps, PV.one, evalArgs, aggD, slD, encD_nd, encD_bd, encD_rw, encD_dc, encD_str, encD_int, *] <;> rfl) (by simp [nev, nevA, nevB, evBuild, PF.eval, PF.get, PF.wants, cPV, cCell, PV.rows, evBin, evUn, evConv, evLen, loadA, loadB, TyK.agg, partA, St.box?, St.tok?, St.setBox, St.setTok, fillO, spl, PV.ps, PV.one, evalArgs, aggD, slD, encD_nd, encD_bd, encD_rw, encD_dc, encD_str, encD_int, *] <;> rfl) ?_
      clear hs
      refine go_ ?_
      exact ⟨(i + 1, j + 1), ⟨by have := HJ.out; simp only; omega, by have := HJ.out; simp only; omega⟩, by have := HJ.out; simp only; omega, by repeat (first | exact sub_nil _ | refine sub_cons (by simp [PF.get]; rfl) (by first | rfl | (simp [*]; done) | fail) ?_), by repeat (first | exact List.Sublist.refl _ | exact List.nil_sublist _ | refine List.Sublist.cons_cons _ ?_ | refine List.Sublist.cons _ ?_)⟩
    · have hc : ¬ (j : Int) < 127 := by omega
      obtain rfl : i = 126 := by omega
      have HJ := Lib.hid hj
      clear hi hj hin hlt
      refine go_ ?_
      refine POps_call_a (HE.out) ?_
      refine go_ ?_
      refine POps_alloc_a ?_
      intro i6 hi6
      refine go_ ?_
      refine Rc ?_
      refine go_ ?_
      clear hc
      refine PW_loop (ι := Nat) (fun y => y ≤ 23) (fun y => [(3, .d (.v (.int .i64 0))), (9, .d (.v (.string (txP y)))), (10, .d (.v (.int .i64 (y : Int))))]) (fun _ => []) (fun y => 23 - y) 0 (Nat.zero_le _) ?_ ?_ ?_
      · repeat (first | exact sub_nil _ | refine sub_cons (by simp [PF.get]; rfl) (by first | rfl | (simp [*]; done) | fail) ?_)
      · repeat (first | exact List.Sublist.refl _ | exact List.nil_sublist _ | refine List.Sublist.cons_cons _ ?_ | refine List.Sublist.cons _ ?_)
      · rintro i hi
        have hin : IntKind.i64.wrap ((i : Int) + 1) = (i : Int) + 1 := IntWalk.i64_in _ (by omega)
        by_cases hlt : i < 23
        · have hc : (i : Int) < 23 := by omega
          refine go_ ?_
          refine POps_catS (a := txP i) (b := ⟨#[120, 32]⟩) (by rw [txP_size, two_size]; omega) (by decide) (by first | (simp [nev, nevA, nevB, evBuild, PF.eval, PF.get, PF.wants, cPV, cCell, PV.rows, evBin, evUn, evConv, evLen, loadA, loadB, TyK.agg, partA, St.box?, St.tok?, St.setBox, St.setTok, fillO, spl, PV.ps, PV.one, evalArgs, aggD, slD, encD_nd, encD_bd, encD_rw, encD_dc, encD_str, encD_int, *]; done) | fail) (by simp [nev, nevA, nevB, evBuild, PF.eval, PF.get, PF.wants, cPV, cCell, PV.rows, evBin, evUn, evConv, evLen, loadA, loadB, TyK.agg, partA, St.box?, St.tok?, St.setBox, St.setTok, fillO, spl, PV.ps, PV.one, evalArgs, aggD, slD, encD_nd, encD_bd, encD_rw, encD_dc, encD_str, encD_int, *] <;> rfl) (by simp [nev, nevA, nevB, evBuild, PF.eval, PF.get, PF.wants, cPV, cCell, PV.rows, evBin, evUn, evConv, evLen, loadA, loadB, TyK.agg, partA, St.box?, St.tok?, St.setBox, St.setTok, fillO, spl, PV.ps, PV.one, evalArgs, aggD, slD, encD_nd, encD_bd, encD_rw, encD_dc, encD_str, encD_int, *] <;> rfl) ?_
          refine go_ ?_
          exact ⟨i + 1, hlt, by omega, by repeat (first | exact sub_nil _ | refine sub_cons (by simp [PF.get]; rfl) (by first | rfl | (simp [*]; done) | fail) ?_), by repeat (first | exact List.Sublist.refl _ | exact List.nil_sublist _ | refine List.Sublist.cons_cons _ ?_ | refine List.Sublist.cons _ ?_)⟩
        · have hc : ¬ (i : Int) < 23 := by omega
          obtain rfl : i = 23 := by omega
          clear hi hin hlt
          refine go_ ?_
          refine POps_call_a (HP.out) ?_
          refine go_ ?_
          clear hc
          refine PW_loop (ι := Nat) (fun y => y ≤ 31) (fun y => [(3, .d (.v (.int .i64 0))), (14, .d (.v (.string (txF y)))), (15, .d (.v (.int .i64 (y : Int))))]) (fun _ => []) (fun y => 31 - y) 0 (Nat.zero_le _) ?_ ?_ ?_
          · repeat (first | exact sub_nil _ | refine sub_cons (by simp [PF.get]; rfl) (by first | rfl | (simp [*]; done) | fail) ?_)
          · repeat (first | exact List.Sublist.refl _ | exact List.nil_sublist _ | refine List.Sublist.cons_cons _ ?_ | refine List.Sublist.cons _ ?_)
          · rintro i hi
            have hin : IntKind.i64.wrap ((i : Int) + 1) = (i : Int) + 1 := IntWalk.i64_in _ (by omega)
            by_cases hlt : i < 31
            · have hc : (i : Int) < 31 := by omega
              refine go_ ?_
              refine POps_catS (a := txF i) (b := ⟨#[120, 59]⟩) (by rw [txF_size, two_size]; omega) (by decide) (by first | (simp [nev, nevA, nevB, evBuild, PF.eval, PF.get, PF.wants, cPV, cCell, PV.rows, evBin, evUn, evConv, evLen, loadA, loadB, TyK.agg, partA, St.box?, St.tok?, St.setBox, St.setTok, fillO, spl, PV.ps, PV.one, evalArgs, aggD, slD, encD_nd, encD_bd, encD_rw, encD_dc, encD_str, encD_int, *]; done) | fail) (by simp [nev, nevA, nevB, evBuild, PF.eval, PF.get, PF.wants, cPV, cCell, PV.rows, evBin, evUn, evConv, evLen, loadA, loadB, TyK.agg, partA, St.box?, St.tok?, St.setBox, St.setTok, fillO, spl, PV.ps, PV.one, evalArgs, aggD, slD, encD_nd, encD_bd, encD_rw, encD_dc, encD_str, encD_int, *] <;> rfl) (by simp [nev, nevA, nevB, evBuild, PF.eval, PF.get, PF.wants, cPV, cCell, PV.rows, evBin, evUn, evConv, evLen, loadA, loadB, TyK.agg, partA, St.box?, St.tok?, St.setBox, St.setTok, fillO, spl, PV.ps, PV.one, evalArgs, aggD, slD, encD_nd, encD_bd, encD_rw, encD_dc, encD_str, encD_int, *] <;> rfl) ?_
              refine go_ ?_
              exact ⟨i + 1, hlt, by omega, by repeat (first | exact sub_nil _ | refine sub_cons (by simp [PF.get]; rfl) (by first | rfl | (simp [*]; done) | fail) ?_), by repeat (first | exact List.Sublist.refl _ | exact List.nil_sublist _ | refine List.Sublist.cons_cons _ ?_ | refine List.Sublist.cons _ ?_)⟩
            · have hc : ¬ (i : Int) < 31 := by omega
              obtain rfl : i = 31 := by omega
              clear hi hin hlt
              refine go_ ?_
              refine POps_catS (a := txF 31) (b := ⟨#[125]⟩) (by rw [txF_size, one_size]; omega) (by decide) (by first | (simp [nev, nevA, nevB, evBuild, PF.eval, PF.get, PF.wants, cPV, cCell, PV.rows, evBin, evUn, evConv, evLen, loadA, loadB, TyK.agg, partA, St.box?, St.tok?, St.setBox, St.setTok, fillO, spl, PV.ps, PV.one, evalArgs, aggD, slD, encD_nd, encD_bd, encD_rw, encD_dc, encD_str, encD_int, *]; done) | fail) (by simp [nev, nevA, nevB, evBuild, PF.eval, PF.get, PF.wants, cPV, cCell, PV.rows, evBin, evUn, evConv, evLen, loadA, loadB, TyK.agg, partA, St.box?, St.tok?, St.setBox, St.setTok, fillO, spl, PV.ps, PV.one, evalArgs, aggD, slD, encD_nd, encD_bd, encD_rw, encD_dc, encD_str, encD_int, *] <;> rfl) (by simp [nev, nevA, nevB, evBuild, PF.eval, PF.get, PF.wants, cPV, cCell, PV.rows, evBin, evUn, evConv, evLen, loadA, loadB, TyK.agg, partA, St.box?, St.tok?, St.setBox, St.setTok, fillO, spl, PV.ps, PV.one, evalArgs, aggD, slD, encD_nd, encD_bd, encD_rw, encD_dc, encD_str, encD_int, *] <;> rfl) ?_
              refine go_ ?_
              refine POps_call_a (HF.out) ?_
              refine go_ ?_
              refine POps_call_b (awake5_p) ?_
              refine go_ ?_
              refine retP_ok (by simp) (by simp only [Try.results5]; rfl) (by simp [resP, St.box?, PF.get, loadB, TyK.agg, *]; rfl) (List.nil_sublist _) ?_
              exact ⟨rfl, rfl⟩
set_option maxHeartbeats 4000000 in
theorem parseLimits_1 (k : Int) (hk : Int.tmod k 3 = 1) : PCalls Try.prog 5 [.d (.v (.int .u8 k))] [] fun p st => p = .d (.v (.bool true)) ∧ st = [] := by
  have we : IntKind.i64.wrap 128 = 128 := rfl
  have wp : IntKind.i64.wrap 24 = 24 := rfl
  have wf : IntKind.i64.wrap 32 = 32 := rfl
  have HE := Lib.hid (pexprs_p (txE 127))
  have HP := Lib.hid (ppats_p (txP 24))
  have HF := Lib.hid (file_p (txF 32 ++ ⟨#[125]⟩))
  rw [txE1] at HE
  obtain ⟨hp2, hL⟩ := txP1
  rw [hp2] at HP
  clear hp2
  obtain ⟨hf2, d, hd, hR⟩ := txF1
  rw [hf2, hd] at HF
  clear hf2 hd
  generalize (exprA (txE 127)).2.1 = ze at HE
  generalize (patsA (txP 24)).2.1 = zp at HP
  generalize (fileA (txF 32 ++ ⟨#[125]⟩)).2.1 = zf at HF
  generalize (patsA (txP 24)).1 = L at HP hL
  obtain ⟨dk, da, dn, dt, dy, dc, dr⟩ := d
  simp only at hR
  generalize (exprA (txE 127)).1 = X at HE
  have he := HE.out
  have hp := HP.out
  have hf := HF.out
  simp only [aggD, encD_nd] at he
  unfold slD at hp hf
  simp only [List.map_cons, List.map_nil, encD_dc] at hf
  clear HE HP HF
  have HE := Lib.hid he
  have HP := Lib.hid hp
  have HF := Lib.hid hf
  clear he hp hf
  refine PCalls.enter Try.func5 rfl Try.ntmps5 (by simp) ?_
  simp only [argsF]
  refine go_ ?_
  refine PW_loop (ι := Nat × Nat) (fun y => y.1 ≤ 127 ∧ y.2 = y.1 + 1) (fun y => [(3, .d (.v (.int .i64 1))), (4, .d (.v (.string (txE y.1)))), (5, .d (.v (.int .i64 (y.2 : Int))))]) (fun _ => []) (fun y => 128 - y.1) (0, 1) ⟨Nat.zero_le _, rfl⟩ ?_ ?_ ?_
  · repeat (first | exact sub_nil _ | refine sub_cons (by simp [PF.get]; rfl) (by first | rfl | (simp [*]; done) | fail) ?_)
  · repeat (first | exact List.Sublist.refl _ | exact List.nil_sublist _ | refine List.Sublist.cons_cons _ ?_ | refine List.Sublist.cons _ ?_)
  · rintro ⟨i, j⟩ ⟨hi, hj⟩
    simp only at hi hj ⊢
    have hin : IntKind.i64.wrap ((j : Int) + 1) = (j : Int) + 1 := IntWalk.i64_in _ (by omega)
    by_cases hlt : j < 128
    · have hc : (j : Int) < 128 := by omega
      have HI := Lib.hid hi
      have HJ := Lib.hid hj
      clear hi hj
      refine go_ ?_
      have hs := HI.out
      refine POps_catS (a := txE i) (b := ⟨#[32, 120]⟩) (by rw [txE_size, two_size]; omega) (by decide) (by first | (simp [nev, nevA, nevB, evBuild, PF.eval, PF.get, PF.wants, cPV, cCell, PV.rows, evBin, evUn, evConv, evLen, loadA, loadB, TyK.agg, partA, St.box?, St.tok?, St.setBox, St.setTok, fillO, spl, PV.ps, PV.one, evalArgs, aggD, slD, encD_nd, encD_bd, encD_rw, encD_dc, encD_str, encD_int, *]; done) | fail) (by simp [nev, nevA, nevB, evBuild, PF.eval, PF.get, PF.wants, cPV, cCell, PV.rows, evBin, evUn, evConv, evLen, loadA, loadB, TyK.agg, partA, St.box?, St.tok?, St.setBox, St.setTok, fillO, spl, PV.ps, PV.one, evalArgs, aggD, slD, encD_nd, encD_bd, encD_rw, encD_dc, encD_str, encD_int, *] <;> rfl) (by simp [nev, nevA, nevB, evBuild, PF.eval, PF.get, PF.wants, cPV, cCell, PV.rows, evBin, evUn, evConv, evLen, loadA, loadB, TyK.agg, partA, St.box?, St.tok?, St.setBox, St.setTok, fillO, spl, PV.ps, PV.one, evalArgs, aggD, slD, encD_nd, encD_bd, encD_rw, encD_dc, encD_str, encD_int, *] <;> rfl) ?_
      clear hs
      refine go_ ?_
      exact ⟨(i + 1, j + 1), ⟨by have := HJ.out; simp only; omega, by have := HJ.out; simp only; omega⟩, by have := HJ.out; simp only; omega, by repeat (first | exact sub_nil _ | refine sub_cons (by simp [PF.get]; rfl) (by first | rfl | (simp [*]; done) | fail) ?_), by repeat (first | exact List.Sublist.refl _ | exact List.nil_sublist _ | refine List.Sublist.cons_cons _ ?_ | refine List.Sublist.cons _ ?_)⟩
    · have hc : ¬ (j : Int) < 128 := by omega
      obtain rfl : i = 127 := by omega
      have HJ := Lib.hid hj
      clear hi hj hin hlt
      refine go_ ?_
      refine POps_call_a (HE.out) ?_
      refine go_ ?_
      refine POps_alloc_a ?_
      intro i6 hi6
      refine go_ ?_
      refine Rc ?_
      refine go_ ?_
      clear hc
      refine PW_loop (ι := Nat) (fun y => y ≤ 24) (fun y => [(3, .d (.v (.int .i64 1))), (9, .d (.v (.string (txP y)))), (10, .d (.v (.int .i64 (y : Int))))]) (fun _ => []) (fun y => 24 - y) 0 (Nat.zero_le _) ?_ ?_ ?_
      · repeat (first | exact sub_nil _ | refine sub_cons (by simp [PF.get]; rfl) (by first | rfl | (simp [*]; done) | fail) ?_)
      · repeat (first | exact List.Sublist.refl _ | exact List.nil_sublist _ | refine List.Sublist.cons_cons _ ?_ | refine List.Sublist.cons _ ?_)
      · rintro i hi
        have hin : IntKind.i64.wrap ((i : Int) + 1) = (i : Int) + 1 := IntWalk.i64_in _ (by omega)
        by_cases hlt : i < 24
        · have hc : (i : Int) < 24 := by omega
          refine go_ ?_
          refine POps_catS (a := txP i) (b := ⟨#[120, 32]⟩) (by rw [txP_size, two_size]; omega) (by decide) (by first | (simp [nev, nevA, nevB, evBuild, PF.eval, PF.get, PF.wants, cPV, cCell, PV.rows, evBin, evUn, evConv, evLen, loadA, loadB, TyK.agg, partA, St.box?, St.tok?, St.setBox, St.setTok, fillO, spl, PV.ps, PV.one, evalArgs, aggD, slD, encD_nd, encD_bd, encD_rw, encD_dc, encD_str, encD_int, *]; done) | fail) (by simp [nev, nevA, nevB, evBuild, PF.eval, PF.get, PF.wants, cPV, cCell, PV.rows, evBin, evUn, evConv, evLen, loadA, loadB, TyK.agg, partA, St.box?, St.tok?, St.setBox, St.setTok, fillO, spl, PV.ps, PV.one, evalArgs, aggD, slD, encD_nd, encD_bd, encD_rw, encD_dc, encD_str, encD_int, *] <;> rfl) (by simp [nev, nevA, nevB, evBuild, PF.eval, PF.get, PF.wants, cPV, cCell, PV.rows, evBin, evUn, evConv, evLen, loadA, loadB, TyK.agg, partA, St.box?, St.tok?, St.setBox, St.setTok, fillO, spl, PV.ps, PV.one, evalArgs, aggD, slD, encD_nd, encD_bd, encD_rw, encD_dc, encD_str, encD_int, *] <;> rfl) ?_
          refine go_ ?_
          exact ⟨i + 1, hlt, by omega, by repeat (first | exact sub_nil _ | refine sub_cons (by simp [PF.get]; rfl) (by first | rfl | (simp [*]; done) | fail) ?_), by repeat (first | exact List.Sublist.refl _ | exact List.nil_sublist _ | refine List.Sublist.cons_cons _ ?_ | refine List.Sublist.cons _ ?_)⟩
        · have hc : ¬ (i : Int) < 24 := by omega
          obtain rfl : i = 24 := by omega
          clear hi hin hlt
          refine go_ ?_
          refine POps_call_a (HP.out) ?_
          refine go_ ?_
          clear hc
          refine PW_loop (ι := Nat) (fun y => y ≤ 32) (fun y => [(3, .d (.v (.int .i64 1))), (14, .d (.v (.string (txF y)))), (15, .d (.v (.int .i64 (y : Int))))]) (fun _ => []) (fun y => 32 - y) 0 (Nat.zero_le _) ?_ ?_ ?_
          · repeat (first | exact sub_nil _ | refine sub_cons (by simp [PF.get]; rfl) (by first | rfl | (simp [*]; done) | fail) ?_)
          · repeat (first | exact List.Sublist.refl _ | exact List.nil_sublist _ | refine List.Sublist.cons_cons _ ?_ | refine List.Sublist.cons _ ?_)
          · rintro i hi
            have hin : IntKind.i64.wrap ((i : Int) + 1) = (i : Int) + 1 := IntWalk.i64_in _ (by omega)
            by_cases hlt : i < 32
            · have hc : (i : Int) < 32 := by omega
              refine go_ ?_
              refine POps_catS (a := txF i) (b := ⟨#[120, 59]⟩) (by rw [txF_size, two_size]; omega) (by decide) (by first | (simp [nev, nevA, nevB, evBuild, PF.eval, PF.get, PF.wants, cPV, cCell, PV.rows, evBin, evUn, evConv, evLen, loadA, loadB, TyK.agg, partA, St.box?, St.tok?, St.setBox, St.setTok, fillO, spl, PV.ps, PV.one, evalArgs, aggD, slD, encD_nd, encD_bd, encD_rw, encD_dc, encD_str, encD_int, *]; done) | fail) (by simp [nev, nevA, nevB, evBuild, PF.eval, PF.get, PF.wants, cPV, cCell, PV.rows, evBin, evUn, evConv, evLen, loadA, loadB, TyK.agg, partA, St.box?, St.tok?, St.setBox, St.setTok, fillO, spl, PV.ps, PV.one, evalArgs, aggD, slD, encD_nd, encD_bd, encD_rw, encD_dc, encD_str, encD_int, *] <;> rfl) (by simp [nev, nevA, nevB, evBuild, PF.eval, PF.get, PF.wants, cPV, cCell, PV.rows, evBin, evUn, evConv, evLen, loadA, loadB, TyK.agg, partA, St.box?, St.tok?, St.setBox, St.setTok, fillO, spl, PV.ps, PV.one, evalArgs, aggD, slD, encD_nd, encD_bd, encD_rw, encD_dc, encD_str, encD_int, *] <;> rfl) ?_
              refine go_ ?_
              exact ⟨i + 1, hlt, by omega, by repeat (first | exact sub_nil _ | refine sub_cons (by simp [PF.get]; rfl) (by first | rfl | (simp [*]; done) | fail) ?_), by repeat (first | exact List.Sublist.refl _ | exact List.nil_sublist _ | refine List.Sublist.cons_cons _ ?_ | refine List.Sublist.cons _ ?_)⟩
            · have hc : ¬ (i : Int) < 32 := by omega
              obtain rfl : i = 32 := by omega
              clear hi hin hlt
              refine go_ ?_
              refine POps_catS (a := txF 32) (b := ⟨#[125]⟩) (by rw [txF_size, one_size]; omega) (by decide) (by first | (simp [nev, nevA, nevB, evBuild, PF.eval, PF.get, PF.wants, cPV, cCell, PV.rows, evBin, evUn, evConv, evLen, loadA, loadB, TyK.agg, partA, St.box?, St.tok?, St.setBox, St.setTok, fillO, spl, PV.ps, PV.one, evalArgs, aggD, slD, encD_nd, encD_bd, encD_rw, encD_dc, encD_str, encD_int, *]; done) | fail) (by simp [nev, nevA, nevB, evBuild, PF.eval, PF.get, PF.wants, cPV, cCell, PV.rows, evBin, evUn, evConv, evLen, loadA, loadB, TyK.agg, partA, St.box?, St.tok?, St.setBox, St.setTok, fillO, spl, PV.ps, PV.one, evalArgs, aggD, slD, encD_nd, encD_bd, encD_rw, encD_dc, encD_str, encD_int, *] <;> rfl) (by simp [nev, nevA, nevB, evBuild, PF.eval, PF.get, PF.wants, cPV, cCell, PV.rows, evBin, evUn, evConv, evLen, loadA, loadB, TyK.agg, partA, St.box?, St.tok?, St.setBox, St.setTok, fillO, spl, PV.ps, PV.one, evalArgs, aggD, slD, encD_nd, encD_bd, encD_rw, encD_dc, encD_str, encD_int, *] <;> rfl) ?_
              refine go_ ?_
              refine POps_call_a (HF.out) ?_
              refine go_ ?_
              refine POps_call_b (awake5_p) ?_
              refine go_ ?_
              refine retP_ok (by simp) (by simp only [Try.results5]; rfl) (by simp [resP, St.box?, PF.get, loadB, TyK.agg, *]; rfl) (List.nil_sublist _) ?_
              exact ⟨rfl, rfl⟩
set_option maxHeartbeats 4000000 in
theorem parseLimits_2 (k : Int) (hk : Int.tmod k 3 = 2) : PCalls Try.prog 5 [.d (.v (.int .u8 k))] [] fun p st => p = .d (.v (.bool true)) ∧ st = [] := by
  have we : IntKind.i64.wrap 129 = 129 := rfl
  have wp : IntKind.i64.wrap 25 = 25 := rfl
  have wf : IntKind.i64.wrap 33 = 33 := rfl
  have HE := Lib.hid (pexprs_p (txE 128))
  have HP := Lib.hid (ppats_p (txP 25))
  have HF := Lib.hid (file_p (txF 33 ++ ⟨#[125]⟩))
  rw [show (exprA (txE 128)).2.1 = 0 from congrArg Prod.fst txE2, show (exprA (txE 128)).2.2 = 2 from congrArg Prod.snd txE2] at HE
  rw [show (patsA (txP 25)).2.1 = 48 from congrArg Prod.fst txP2, show (patsA (txP 25)).2.2 = 2 from congrArg Prod.snd txP2] at HP
  rw [show (fileA (txF 33 ++ ⟨#[125]⟩)).2.1 = 77 from congrArg Prod.fst txF2, show (fileA (txF 33 ++ ⟨#[125]⟩)).2.2 = 2 from congrArg Prod.snd txF2] at HF
  generalize (patsA (txP 25)).1 = L at HP
  generalize (fileA (txF 33 ++ ⟨#[125]⟩)).1 = D at HF
  generalize (exprA (txE 128)).1 = X at HE
  have he := HE.out
  have hp := HP.out
  have hf := HF.out
  simp only [aggD, encD_nd] at he
  unfold slD at hp hf
  clear HE HP HF
  have HE := Lib.hid he
  have HP := Lib.hid hp
  have HF := Lib.hid hf
  clear he hp hf
  refine PCalls.enter Try.func5 rfl Try.ntmps5 (by simp) ?_
  simp only [argsF]
  refine go_ ?_
  refine PW_loop (ι := Nat × Nat) (fun y => y.1 ≤ 128 ∧ y.2 = y.1 + 1) (fun y => [(3, .d (.v (.int .i64 2))), (4, .d (.v (.string (txE y.1)))), (5, .d (.v (.int .i64 (y.2 : Int))))]) (fun _ => []) (fun y => 129 - y.1) (0, 1) ⟨Nat.zero_le _, rfl⟩ ?_ ?_ ?_
  · repeat (first | exact sub_nil _ | refine sub_cons (by simp [PF.get]; rfl) (by first | rfl | (simp [*]; done) | fail) ?_)
  · repeat (first | exact List.Sublist.refl _ | exact List.nil_sublist _ | refine List.Sublist.cons_cons _ ?_ | refine List.Sublist.cons _ ?_)
  · rintro ⟨i, j⟩ ⟨hi, hj⟩
    simp only at hi hj ⊢
    have hin : IntKind.i64.wrap ((j : Int) + 1) = (j : Int) + 1 := IntWalk.i64_in _ (by omega)
    by_cases hlt : j < 129
    · have hc : (j : Int) < 129 := by omega
      have HI := Lib.hid hi
      have HJ := Lib.hid hj
      clear hi hj
      refine go_ ?_
      have hs := HI.out
      refine POps_catS (a := txE i) (b := ⟨#[32, 120]⟩) (by rw [txE_size, two_size]; omega) (by decide) (by first | (simp [nev, nevA, nevB, evBuild, PF.eval, PF.get, PF.wants, cPV, cCell, PV.rows, evBin, evUn, evConv, evLen, loadA, loadB, TyK.agg, partA, St.box?, St.tok?, St.setBox, St.setTok, fillO, spl, PV.ps, PV.one, evalArgs, aggD, slD, encD_nd, encD_bd, encD_rw, encD_dc, encD_str, encD_int, *]; done) | fail) (by simp [nev, nevA, nevB, evBuild, PF.eval, PF.get, PF.wants, cPV, cCell, PV.rows, evBin, evUn, evConv, evLen, loadA, loadB, TyK.agg, partA, St.box?, St.tok?, St.setBox, St.setTok, fillO, spl, PV.ps, PV.one, evalArgs, aggD, slD, encD_nd, encD_bd, encD_rw, encD_dc, encD_str, encD_int, *] <;> rfl) (by simp [nev, nevA, nevB, evBuild, PF.eval, PF.get, PF.wants, cPV, cCell, PV.rows, evBin, evUn, evConv, evLen, loadA, loadB, TyK.agg, partA, St.box?, St.tok?, St.setBox, St.setTok, fillO, spl, PV.ps, PV.one, evalArgs, aggD, slD, encD_nd, encD_bd, encD_rw, encD_dc, encD_str, encD_int, *] <;> rfl) ?_
      clear hs
      refine go_ ?_
      exact ⟨(i + 1, j + 1), ⟨by have := HJ.out; simp only; omega, by have := HJ.out; simp only; omega⟩, by have := HJ.out; simp only; omega, by repeat (first | exact sub_nil _ | refine sub_cons (by simp [PF.get]; rfl) (by first | rfl | (simp [*]; done) | fail) ?_), by repeat (first | exact List.Sublist.refl _ | exact List.nil_sublist _ | refine List.Sublist.cons_cons _ ?_ | refine List.Sublist.cons _ ?_)⟩
    · have hc : ¬ (j : Int) < 129 := by omega
      obtain rfl : i = 128 := by omega
      have HJ := Lib.hid hj
      clear hi hj hin hlt
      refine go_ ?_
      refine POps_call_a (HE.out) ?_
      refine go_ ?_
      refine POps_alloc_a ?_
      intro i6 hi6
      refine go_ ?_
      refine Rc ?_
      refine go_ ?_
      clear hc
      refine PW_loop (ι := Nat) (fun y => y ≤ 25) (fun y => [(3, .d (.v (.int .i64 2))), (9, .d (.v (.string (txP y)))), (10, .d (.v (.int .i64 (y : Int))))]) (fun _ => []) (fun y => 25 - y) 0 (Nat.zero_le _) ?_ ?_ ?_
      · repeat (first | exact sub_nil _ | refine sub_cons (by simp [PF.get]; rfl) (by first | rfl | (simp [*]; done) | fail) ?_)
      · repeat (first | exact List.Sublist.refl _ | exact List.nil_sublist _ | refine List.Sublist.cons_cons _ ?_ | refine List.Sublist.cons _ ?_)
      · rintro i hi
        have hin : IntKind.i64.wrap ((i : Int) + 1) = (i : Int) + 1 := IntWalk.i64_in _ (by omega)
        by_cases hlt : i < 25
        · have hc : (i : Int) < 25 := by omega
          refine go_ ?_
          refine POps_catS (a := txP i) (b := ⟨#[120, 32]⟩) (by rw [txP_size, two_size]; omega) (by decide) (by first | (simp [nev, nevA, nevB, evBuild, PF.eval, PF.get, PF.wants, cPV, cCell, PV.rows, evBin, evUn, evConv, evLen, loadA, loadB, TyK.agg, partA, St.box?, St.tok?, St.setBox, St.setTok, fillO, spl, PV.ps, PV.one, evalArgs, aggD, slD, encD_nd, encD_bd, encD_rw, encD_dc, encD_str, encD_int, *]; done) | fail) (by simp [nev, nevA, nevB, evBuild, PF.eval, PF.get, PF.wants, cPV, cCell, PV.rows, evBin, evUn, evConv, evLen, loadA, loadB, TyK.agg, partA, St.box?, St.tok?, St.setBox, St.setTok, fillO, spl, PV.ps, PV.one, evalArgs, aggD, slD, encD_nd, encD_bd, encD_rw, encD_dc, encD_str, encD_int, *] <;> rfl) (by simp [nev, nevA, nevB, evBuild, PF.eval, PF.get, PF.wants, cPV, cCell, PV.rows, evBin, evUn, evConv, evLen, loadA, loadB, TyK.agg, partA, St.box?, St.tok?, St.setBox, St.setTok, fillO, spl, PV.ps, PV.one, evalArgs, aggD, slD, encD_nd, encD_bd, encD_rw, encD_dc, encD_str, encD_int, *] <;> rfl) ?_
          refine go_ ?_
          exact ⟨i + 1, hlt, by omega, by repeat (first | exact sub_nil _ | refine sub_cons (by simp [PF.get]; rfl) (by first | rfl | (simp [*]; done) | fail) ?_), by repeat (first | exact List.Sublist.refl _ | exact List.nil_sublist _ | refine List.Sublist.cons_cons _ ?_ | refine List.Sublist.cons _ ?_)⟩
        · have hc : ¬ (i : Int) < 25 := by omega
          obtain rfl : i = 25 := by omega
          clear hi hin hlt
          refine go_ ?_
          refine POps_call_a (HP.out) ?_
          refine go_ ?_
          clear hc
          refine PW_loop (ι := Nat) (fun y => y ≤ 33) (fun y => [(3, .d (.v (.int .i64 2))), (14, .d (.v (.string (txF y)))), (15, .d (.v (.int .i64 (y : Int))))]) (fun _ => []) (fun y => 33 - y) 0 (Nat.zero_le _) ?_ ?_ ?_
          · repeat (first | exact sub_nil _ | refine sub_cons (by simp [PF.get]; rfl) (by first | rfl | (simp [*]; done) | fail) ?_)
          · repeat (first | exact List.Sublist.refl _ | exact List.nil_sublist _ | refine List.Sublist.cons_cons _ ?_ | refine List.Sublist.cons _ ?_)
          · rintro i hi
            have hin : IntKind.i64.wrap ((i : Int) + 1) = (i : Int) + 1 := IntWalk.i64_in _ (by omega)
            by_cases hlt : i < 33
            · have hc : (i : Int) < 33 := by omega
              refine go_ ?_
              refine POps_catS (a := txF i) (b := ⟨#[120, 59]⟩) (by rw [txF_size, two_size]; omega) (by decide) (by first | (simp [nev, nevA, nevB, evBuild, PF.eval, PF.get, PF.wants, cPV, cCell, PV.rows, evBin, evUn, evConv, evLen, loadA, loadB, TyK.agg, partA, St.box?, St.tok?, St.setBox, St.setTok, fillO, spl, PV.ps, PV.one, evalArgs, aggD, slD, encD_nd, encD_bd, encD_rw, encD_dc, encD_str, encD_int, *]; done) | fail) (by simp [nev, nevA, nevB, evBuild, PF.eval, PF.get, PF.wants, cPV, cCell, PV.rows, evBin, evUn, evConv, evLen, loadA, loadB, TyK.agg, partA, St.box?, St.tok?, St.setBox, St.setTok, fillO, spl, PV.ps, PV.one, evalArgs, aggD, slD, encD_nd, encD_bd, encD_rw, encD_dc, encD_str, encD_int, *] <;> rfl) (by simp [nev, nevA, nevB, evBuild, PF.eval, PF.get, PF.wants, cPV, cCell, PV.rows, evBin, evUn, evConv, evLen, loadA, loadB, TyK.agg, partA, St.box?, St.tok?, St.setBox, St.setTok, fillO, spl, PV.ps, PV.one, evalArgs, aggD, slD, encD_nd, encD_bd, encD_rw, encD_dc, encD_str, encD_int, *] <;> rfl) ?_
              refine go_ ?_
              exact ⟨i + 1, hlt, by omega, by repeat (first | exact sub_nil _ | refine sub_cons (by simp [PF.get]; rfl) (by first | rfl | (simp [*]; done) | fail) ?_), by repeat (first | exact List.Sublist.refl _ | exact List.nil_sublist _ | refine List.Sublist.cons_cons _ ?_ | refine List.Sublist.cons _ ?_)⟩
            · have hc : ¬ (i : Int) < 33 := by omega
              obtain rfl : i = 33 := by omega
              clear hi hin hlt
              refine go_ ?_
              refine POps_catS (a := txF 33) (b := ⟨#[125]⟩) (by rw [txF_size, one_size]; omega) (by decide) (by first | (simp [nev, nevA, nevB, evBuild, PF.eval, PF.get, PF.wants, cPV, cCell, PV.rows, evBin, evUn, evConv, evLen, loadA, loadB, TyK.agg, partA, St.box?, St.tok?, St.setBox, St.setTok, fillO, spl, PV.ps, PV.one, evalArgs, aggD, slD, encD_nd, encD_bd, encD_rw, encD_dc, encD_str, encD_int, *]; done) | fail) (by simp [nev, nevA, nevB, evBuild, PF.eval, PF.get, PF.wants, cPV, cCell, PV.rows, evBin, evUn, evConv, evLen, loadA, loadB, TyK.agg, partA, St.box?, St.tok?, St.setBox, St.setTok, fillO, spl, PV.ps, PV.one, evalArgs, aggD, slD, encD_nd, encD_bd, encD_rw, encD_dc, encD_str, encD_int, *] <;> rfl) (by simp [nev, nevA, nevB, evBuild, PF.eval, PF.get, PF.wants, cPV, cCell, PV.rows, evBin, evUn, evConv, evLen, loadA, loadB, TyK.agg, partA, St.box?, St.tok?, St.setBox, St.setTok, fillO, spl, PV.ps, PV.one, evalArgs, aggD, slD, encD_nd, encD_bd, encD_rw, encD_dc, encD_str, encD_int, *] <;> rfl) ?_
              refine go_ ?_
              refine POps_call_a (HF.out) ?_
              refine go_ ?_
              refine POps_call_b (awake5_p) ?_
              refine go_ ?_
              refine retP_ok (by simp) (by simp only [Try.results5]; rfl) (by simp [resP, St.box?, PF.get, loadB, TyK.agg, *]; rfl) (List.nil_sublist _) ?_
              exact ⟨rfl, rfl⟩
end Go.Proofs.Ytahhgpafjiljfaa

namespace Go.Proofs.Ytahhgpafjiljfaa
open Go.RowKit
set_option maxRecDepth 100000
theorem sdecl5_p (d e : Dc) : PCalls Try.prog 18 [aggD d, aggD e] [] fun p s => p = .d (.v (.bool (declEq d e))) ∧ s = [] := PCalls.flat trivial fun K w vs ha => by
  obtain ⟨v, u, rfl, hv, hu⟩ := ha.two
  obtain ⟨cs, rfl, hc⟩ := rep_rel hv
  obtain ⟨ds, rfl, hd⟩ := rep_rel hu
  exact samedecl_any _ _ d e cs ds w hc hd
theorem fold_size (ts : List ByteArray) : ∀ b : ByteArray, b.size ≤ (ts.foldl addT b).size := by
  induction ts with
  | nil => intro b; exact Nat.le_refl _
  | cons t ts ih =>
    intro b
    refine Nat.le_trans ?_ (ih (addT b t))
    unfold addT
    rw [ByteArray.size_append, ByteArray.size_append]
    omega
def mTk (l : List Tk) (k : Nat) : ByteArray := mText ((l.take k).map Tk.text)
theorem mTk_succ {l : List Tk} {k : Nat} (h : k < l.length) : mTk l (k + 1) = addT (mTk l k) l[k].text := by
  unfold mTk mText
  rw [List.take_succ_eq_append_getElem h, List.map_append, List.foldl_append]
  rfl
theorem mTk_le (l : List Tk) (k : Nat) : (mTk l k).size ≤ (mText (l.map Tk.text)).size := by
  unfold mTk mText
  conv => rhs; rw [← List.take_append_drop k l, List.map_append, List.foldl_append]
  exact fold_size _ _
theorem fileS_len (l : List Tk) : ∀ (n : Nat) (acc : List Dc) (σ : ST), (fileS l n acc σ).1.length ≤ acc.length + n := by
  intro n
  induction n with
  | zero => intro acc σ; exact Nat.le_refl _
  | succ n ih =>
    intro acc σ
    simp only [fileS]
    split
    · refine Nat.le_trans (ih _ _) ?_
      rw [List.length_append, List.length_singleton]; omega
    · simp only; omega
theorem fileA_len (s : ByteArray) : (fileA s).1.length ≤ (startL s).length + 1 := by
  unfold fileA
  simp only
  split
  · exact Nat.le_trans (fileS_len _ _ _ _) (by simp)
  · simp
theorem startL_ok {s : ByteArray} (h0 : (tokA s).2.2 = 0) : startL s = (tokA s).1 := by unfold startL; rw [if_neg (by simp [h0])]
theorem declEq_all {A B : List Dc} (h : A.map eDc = B.map eDc) (hs : ∀ d ∈ A, smDc d) (k : Nat) (h1 : k < A.length) (h2 : k < B.length) : declEq A[k] B[k] = true := by
  refine decl_e (hs _ (List.getElem_mem h1)) ?_
  have e1 : (A.map eDc)[k]? = some (eDc A[k]) := by rw [List.getElem?_map, List.getElem?_eq_getElem h1]; rfl
  have e2 : (B.map eDc)[k]? = some (eDc B[k]) := by rw [List.getElem?_map, List.getElem?_eq_getElem h2]; rfl
  rw [h, e2] at e1
  exact (Option.some.inj e1).symm
set_option maxHeartbeats 4000000 in
theorem parseBlanks_p (s : ByteArray) : PCalls Try.prog 6 [.d (.v (.string s))] [] fun p st => p = .d (.v (.bool true)) ∧ st = [] := by
  by_cases hs : s.size ≤ 2000
  · have hc : ¬ (2000 : Int) < s.size := by omega
    have HT := Lib.hid (tall_p s)
    by_cases h0 : (tokA s).2.2 = 0
    · obtain ⟨m1, m2, m3⟩ := made_toks s hs h0
      obtain ⟨b1, b2⟩ := blanks_like s hs h0
      have b3 := fileA_sm s
      have b4 := fileA_err s
      have hA := file_p s
      have hB := file_p (mText ((tokA s).1.map Tk.text))
      have n1 := (startOk s).len
      have n2 := fileA_len s
      rw [startL_ok h0] at n1 n2
      rw [← b1] at hB
      have hlen : (fileA s).1.length = (fileA (mText ((tokA s).1.map Tk.text))).1.length := by
        have := congrArg List.length b2
        simpa using this
      have HD : Hid (∀ (k : Nat) (h1 : k < (fileA s).1.length) (h2 : k < (fileA (mText ((tokA s).1.map Tk.text))).1.length), declEq (fileA s).1[k] (fileA (mText ((tokA s).1.map Tk.text))).1[k] = true) := by
        intro k h1 h2
        by_cases he : (fileA s).2.2 = 0
        · exact declEq_all b2 (b3 he) k h1 h2
        · rw [b4 he] at h1
          exact absurd h1 (Nat.not_lt_zero _)
      unfold tokP at HT
      rw [h0] at HT
      clear m1 m2 h0 b1 b2 b3 b4
      generalize (tokA s).1 = l at *
      generalize (tokA s).2.1 = at0 at *
      generalize hm : mText (l.map Tk.text) = t at *
      generalize (fileA s).2.1 = at1 at *
      generalize (fileA s).2.2 = er at *
      generalize (fileA t).2.1 = at2 at *
      generalize (fileA s).1 = A at *
      generalize (fileA t).1 = B at *
      have hT : mTk l l.length = t := by unfold mTk; rw [List.take_length]; exact hm
      have hL : ∀ k, (mTk l k).size ≤ 65535 := fun k => Nat.le_trans (mTk_le l k) (by rw [hm]; exact m3)
      have hz : mTk l 0 = ⟨#[123, 45, 32, 102, 105, 114, 115, 116, 32, 45, 125]⟩ := by unfold mTk; rw [List.take_zero]; rfl
      have HTT := Lib.hid hT
      have HLL := Lib.hid hL
      have HZ := Lib.hid hz
      unfold slD at hA hB
      have HA := Lib.hid hA
      have HB := Lib.hid hB
      have HN := Lib.hid hlen
      have N1 := Lib.hid n1
      have N2 := Lib.hid n2
      clear hA hB hlen hm m3 hT hL hz n1 n2
      refine PCalls.enter Try.func6 rfl Try.ntmps6 (by simp) ?_
      simp only [argsF]
      refine go_ ?_
      refine POps_call_a (HT.out) ?_
      refine go_ ?_
      refine PW_loop (ι := Nat) (fun y => y ≤ l.length) (fun y => [(0, .d (.v (.string s))), (3, .d (.sl (l.map encD))), (6, .d (.v (.string (mTk l y)))), (7, .d (.v (.int .i64 (y : Int))))]) (fun _ => []) (fun y => l.length - y) 0 (Nat.zero_le _) ?_ ?_ ?_
      · repeat (first | exact sub_nil _ | refine sub_cons (by simp [PF.get]; rfl) (by first | rfl | (simp [HZ.out]; done) | fail) ?_)
      · repeat (first | exact List.Sublist.refl _ | exact List.nil_sublist _ | refine List.Sublist.cons_cons _ ?_ | refine List.Sublist.cons _ ?_)
      · rintro k hk
        have hin : IntKind.i64.wrap ((k : Int) + 1) = (k : Int) + 1 := IntWalk.i64_in _ (by have := N1.out; omega)
        by_cases hlt : k < l.length
        · have hx := get_enc hlt
          have he := encD_tk l[k]
          have hc : (k : Int) < l.length := by omega
          have hn : (0 : Int) ≤ k := by omega
          have hm := mTk_succ hlt
          have hz := HLL.out (k + 1)
          rw [hm] at hz
          unfold addT at hm hz
          rw [ByteArray.size_append, ByteArray.size_append] at hz
          have HM := Lib.hid hm
          have HZ2 := Lib.hid hz
          clear hm hz
          refine go_ ?_
          refine POps_catS (a := mTk l k) (b := l[k].text) (by have := HZ2.out; omega) (by decide) (by first | (simp [nev, nevA, nevB, evBuild, PF.eval, PF.get, PF.wants, cPV, cCell, PV.rows, evBin, evUn, evConv, evLen, loadA, loadB, TyK.agg, partA, St.box?, St.tok?, St.setBox, St.setTok, fillO, spl, PV.ps, PV.one, evalArgs, aggD, slD, encD_nd, encD_bd, encD_rw, encD_dc, encD_str, encD_int, *]; done) | fail) (by simp [nev, nevA, nevB, evBuild, PF.eval, PF.get, PF.wants, cPV, cCell, PV.rows, evBin, evUn, evConv, evLen, loadA, loadB, TyK.agg, partA, St.box?, St.tok?, St.setBox, St.setTok, fillO, spl, PV.ps, PV.one, evalArgs, aggD, slD, encD_nd, encD_bd, encD_rw, encD_dc, encD_str, encD_int, *] <;> rfl) (by simp [nev, nevA, nevB, evBuild, PF.eval, PF.get, PF.wants, cPV, cCell, PV.rows, evBin, evUn, evConv, evLen, loadA, loadB, TyK.agg, partA, St.box?, St.tok?, St.setBox, St.setTok, fillO, spl, PV.ps, PV.one, evalArgs, aggD, slD, encD_nd, encD_bd, encD_rw, encD_dc, encD_str, encD_int, *] <;> rfl) ?_
          refine go_ ?_
          refine POps_catS (a := mTk l k ++ l[k].text) (b := ⟨#[32, 45, 45, 32, 40, 10, 9]⟩) (by have := HZ2.out; rw [ByteArray.size_append]; omega) (by decide) (by first | (simp [nev, nevA, nevB, evBuild, PF.eval, PF.get, PF.wants, cPV, cCell, PV.rows, evBin, evUn, evConv, evLen, loadA, loadB, TyK.agg, partA, St.box?, St.tok?, St.setBox, St.setTok, fillO, spl, PV.ps, PV.one, evalArgs, aggD, slD, encD_nd, encD_bd, encD_rw, encD_dc, encD_str, encD_int, *]; done) | fail) (by simp [nev, nevA, nevB, evBuild, PF.eval, PF.get, PF.wants, cPV, cCell, PV.rows, evBin, evUn, evConv, evLen, loadA, loadB, TyK.agg, partA, St.box?, St.tok?, St.setBox, St.setTok, fillO, spl, PV.ps, PV.one, evalArgs, aggD, slD, encD_nd, encD_bd, encD_rw, encD_dc, encD_str, encD_int, *] <;> rfl) (by simp [nev, nevA, nevB, evBuild, PF.eval, PF.get, PF.wants, cPV, cCell, PV.rows, evBin, evUn, evConv, evLen, loadA, loadB, TyK.agg, partA, St.box?, St.tok?, St.setBox, St.setTok, fillO, spl, PV.ps, PV.one, evalArgs, aggD, slD, encD_nd, encD_bd, encD_rw, encD_dc, encD_str, encD_int, *] <;> rfl) ?_
          refine go_ ?_
          refine ⟨k + 1, hlt, by omega, ?_, by repeat (first | exact List.Sublist.refl _ | exact List.nil_sublist _ | refine List.Sublist.cons_cons _ ?_ | refine List.Sublist.cons _ ?_)⟩
          rw [HM.out]
          repeat (first | exact sub_nil _ | refine sub_cons (by simp [PF.get]; rfl) (by first | rfl | (simp [*]; done) | fail) ?_)
        · have hc : ¬ (k : Int) < l.length := by omega
          obtain rfl : k = l.length := by omega
          clear hlt hin hk
          rw [HTT.out]
          refine go_ ?_
          refine POps_call_a (HA.out) ?_
          refine go_ ?_
          refine POps_call_a (HB.out) ?_
          refine go_ ?_
          have hlen := HN.out
          refine go_ ?_
          have hm : A.length ≤ A.length := Nat.le_refl _
          clear hlen
          refine PW_loop (ι := Nat) (fun y => y ≤ A.length) (fun y => [(8, .d (.sl (A.map encD))), (11, .d (.sl (B.map encD))), (14, .d (.v (.int .i64 (y : Int))))]) (fun _ => []) (fun y => A.length - y) 0 (Nat.zero_le _) ?_ ?_ ?_
          · repeat (first | exact sub_nil _ | refine sub_cons (by simp [PF.get]; rfl) (by first | rfl | (simp [*]; done) | fail) ?_)
          · repeat (first | exact List.Sublist.refl _ | exact List.nil_sublist _ | refine List.Sublist.cons_cons _ ?_ | refine List.Sublist.cons _ ?_)
          · rintro k hk
            have hin : IntKind.i64.wrap ((k : Int) + 1) = (k : Int) + 1 := IntWalk.i64_in _ (by have := N1.out; have := N2.out; omega)
            by_cases hlt : k < A.length
            · have hlt2 : k < B.length := by have := HN.out; omega
              have hx := get_enc hlt
              have hy := get_enc hlt2
              have hc : (k : Int) < A.length := by omega
              have hc2 : (k : Int) < B.length := by omega
              have hn : (0 : Int) ≤ k := by omega
              have HS := Lib.hid (sdecl5_p A[k] B[k])
              rw [HD.out k hlt hlt2] at HS
              refine go_ ?_
              refine PW_drawn [(0, .a), (1, .a), (2, .a), (3, .a), (4, .a), (5, .a), (6, .a), (7, .a), (8, .a), (9, .a)] (by kernel_rfl) (by rfl) (by kernel_rfl) ?_
              refine go_ ?_
              refine POrd_call_a (HS.out) ?_
              refine go_ ?_
              exact ⟨k + 1, hlt, by omega, by repeat (first | exact sub_nil _ | refine sub_cons (by simp [PF.get]; rfl) (by first | rfl | (simp [*]; done) | fail) ?_), by repeat (first | exact List.Sublist.refl _ | exact List.nil_sublist _ | refine List.Sublist.cons_cons _ ?_ | refine List.Sublist.cons _ ?_)⟩
            · have hc : ¬ (k : Int) < A.length := by omega
              refine go_ ?_
              refine POps_call_b (awake5_p) ?_
              refine go_ ?_
              refine retP_ok (by simp) (by simp only [Try.results6]; rfl) (by simp [resP, St.box?, PF.get, loadB, TyK.agg, *]; rfl) (List.nil_sublist _) ?_
              exact ⟨rfl, rfl⟩
    · unfold tokP at HT
      generalize (tokA s).1 = l at *
      generalize (tokA s).2.1 = at0 at *
      generalize (tokA s).2.2 = e0 at *
      refine PCalls.enter Try.func6 rfl Try.ntmps6 (by simp) ?_
      simp only [argsF]
      refine go_ ?_
      refine POps_call_a (HT.out) ?_
      refine go_ ?_
      refine POps_call_b (awake5_p) ?_
      refine go_ ?_
      refine retP_ok (by simp) (by simp only [Try.results6]; rfl) (by simp [resP, St.box?, PF.get, loadB, TyK.agg, *]; rfl) (List.nil_sublist _) ?_
      exact ⟨rfl, rfl⟩
  · have hc : (2000 : Int) < s.size := by omega
    refine PCalls.enter Try.func6 rfl Try.ntmps6 (by simp) ?_
    simp only [argsF]
    refine go_ ?_
    refine POps_call_b (awake5_p) ?_
    refine go_ ?_
    refine retP_ok (by simp) (by simp only [Try.results6]; rfl) (by simp [resP, St.box?, PF.get, loadB, TyK.agg, *]; rfl) (List.nil_sublist _) ?_
    exact ⟨rfl, rfl⟩
theorem parseBlanks_walk (s : ByteArray) (hs : s.size ≤ maxLen) (w : World) : Calls Try.prog 6 #[.string s] w fun e w' => e = .returned (.bool true) ∧ Below w.heap.size w w' :=
  ((parseBlanks_p s).mono fun _ _ h => h.1).top (relVs_cons (.d (.v hs)) (relVs_nil _ _))
end Go.Proofs.Ytahhgpafjiljfaa

import Derived.Test.YtfnfbbmegdkhjaaBE
import Derived.Test.YtfnfbbmegdkhjaaBA1
set_option linter.unusedSimpArgs false
set_option linter.unusedVariables false
namespace Go.Proofs.Ytfnfbbmegdkhjaa
open Go.RowKit
/-- a variable: its number and its type -/
structure Va where
  n : Int
  ty : Tm
instance : Enc Va := ⟨4, fun e => .v (.int .i64 e.n) :: tmD e.ty, fun e => by simp [tmD_len]⟩
instance : EncOk Va := ⟨fun e d hd => by
  simp only [Enc.enc, List.mem_cons] at hd
  rcases hd with rfl | hd
  · exact .v trivial
  · exact tmD_ok _ d hd⟩
@[simp] theorem encD_va (e : Va) : encD e = [.v (.int .i64 e.n), .v (.int .i64 e.ty.kind), .v (.int .i64 e.ty.num), .sl (e.ty.sub.map encD)] := by
  have h1 := Jk e.ty
  unfold encD at h1 ⊢
  simp only [Enc.enc] at h1 ⊢
  rw [show ∀ (d : Dt) (l : List Dt), dtL (d :: l) = dtD d :: dtL l from fun d l => by simp only [dtL], h1]
  simp only [dtD]
end Go.Proofs.Ytfnfbbmegdkhjaa

namespace Go.Proofs.Ytfnfbbmegdkhjaa
open Go.RowKit
set_option maxRecDepth 100000
mutual
/-- does a named variable stand in a term -/
def sdT : Tm → Int → Bool
  | .mk k n sub, d => if (k == 8) = true then n == d else sdL sub d
def sdL : List Tm → Int → Bool
  | [], _ => false
  | t :: ts, d => sdT t d || sdL ts d
end
set_option maxHeartbeats 8000000 in
theorem rstands_p : ∀ (t : Tm) (d : Int), PCalls Try.prog 42 [aggD t, .d (.v (.int .i64 d))] [] fun p s => p = .d (.v (.bool (sdT t d))) ∧ s = [] := by
  refine Tm.ind ?_
  intro k n sub ih d
  obtain ⟨R, hR0⟩ : ∃ R, R = sdT (.mk k n sub) d := ⟨_, rfl⟩
  rw [← hR0]
  simp only [aggD, Jk, List.map_cons, List.map_nil, Ju, Jv, Jw]
  simp only [sdT] at hR0
  have IH := Lib.hid ih
  simp only [aggD, Jk, List.map_cons, List.map_nil, Ju, Jv, Jw] at IH
  have HR0 := Lib.hid hR0
  clear ih hR0
  refine PCalls.enter Try.func42 rfl Try.ntmps42 (by simp) ?_
  simp only [argsF]
  refine PW_slenA (t := 0) (i := 2) (rows := sub.map encD) (by simp [PF.get] <;> rfl) rfl fun hml => ?_
  rw [List.length_map] at hml
  unfold maxLen at hml
  cases h8 : (k == 8)
  · have HS : Hid (R = sdL (sub.drop 0) d) := by show _ = _; rw [show R = _ from HR0.out]; simp [*]
    clear HR0
    refine go_ ?_
    refine Jc ?_
    intro i0 hi0
    refine go_ ?_
    refine PW_loop (ι := Nat) (fun y => y ≤ sub.length ∧ Hid (R = sdL (sub.drop y) d)) (fun y => [(1, .d (.v (.int .i64 d))), (2, .ptr i0 0), (5, .d (.v (.int .i64 (y : Int))))]) (fun _ => [.box i0 28 [.d (.v (.int .i64 k)), .d (.v (.int .i64 n)), .d (.sl (sub.map encD))]]) (fun y => sub.length - y) 0 ⟨Nat.zero_le _, HS.out⟩ ?_ ?_ ?_
    · repeat (first | exact Js _ | refine Jr (by simp [PF.get]; rfl) (by first | rfl | (simp [*]; done) | fail) ?_)
    · repeat (first | exact List.Sublist.refl _ | exact List.nil_sublist _ | refine List.Sublist.cons_cons _ ?_ | refine List.Sublist.cons _ ?_)
    · rintro j ⟨hj, hR⟩
      clear HS
      by_cases hlt : j < sub.length
      · have hx := get_enc hlt
        have hc : (j : Int) < sub.length := by omega
        have hn : (0 : Int) ≤ j := by omega
        have hin := wr64 (n := (j : Int) + 1) (by omega) (by omega)
        have hR2 : Hid (R = (sdT sub[j] d || sdL (sub.drop (j + 1)) d)) := by
          rw [show R = _ from hR.out, List.drop_eq_getElem_cons hlt]
          show _ = _
          simp only [sdL]
        have hc1 := Lib.hid (IH.out _ (List.getElem_mem hlt) d)
        clear hR
        generalize sdT sub[j] d = x' at *
        refine go_ ?_
        refine Jb (hc1.out) ?_
        refine go_ ?_
        rcases Bool.eq_false_or_eq_true (x') with hq | hq
        rotate_left
        · have hR3 : Hid (R = sdL (sub.drop (j + 1)) d) := by show _ = _; rw [show R = _ from hR2.out, hq]; rfl
          clear hR2
          refine go_ ?_
          exact ⟨j + 1, ⟨hlt, hR3⟩, by omega, by repeat (first | exact Js _ | refine Jr (by simp [PF.get]; rfl) (by first | rfl | (simp [*]; done) | fail) ?_), by repeat (first | exact List.Sublist.refl _ | exact List.nil_sublist _ | refine List.Sublist.cons_cons _ ?_ | refine List.Sublist.cons _ ?_)⟩
        · have hf : Hid (R = true) := by show _ = _; rw [show R = _ from hR2.out, hq]; rfl
          clear hR2
          refine go_ ?_
          refine Jl (by simp) (by simp only [Try.results42]; rfl) (by simp [resP, St.box?, PF.get, Jm, TyK.agg, *]; rfl) (List.nil_sublist _) ?_
          exact ⟨by rw [hf.out]; rfl, rfl⟩
      · have hc : ¬ (j : Int) < sub.length := by omega
        have hf : Hid (R = false) := by rw [show R = _ from hR.out, List.drop_of_length_le (by omega)]; rfl
        refine go_ ?_
        refine Jl (by simp) (by simp only [Try.results42]; rfl) (by simp [resP, St.box?, PF.get, Jm, TyK.agg, *]; rfl) (List.nil_sublist _) ?_
        exact ⟨by rw [hf.out]; rfl, rfl⟩
  · have HS : Hid (R = (n == d)) := by show _ = _; rw [show R = _ from HR0.out]; simp [*]
    clear HR0
    refine go_ ?_
    refine Jc ?_
    intro i0 hi0
    refine go_ ?_
    refine Jl (by simp) (by simp only [Try.results42]; rfl) (by simp [resP, St.box?, PF.get, Jm, TyK.agg, *]; rfl) (List.nil_sublist _) ?_
    exact ⟨by rw [HS.out]; rfl, rfl⟩
set_option maxHeartbeats 8000000 in
theorem law22of_p (l : List Va) (hl : l.length ≤ 100000) : PCalls Try.prog 16 [.d (.sl (l.map encD))] [] fun p s => p = .d (.sl (l.map encD)) ∧ s = [] := by
  refine PCalls.enter Try.func16 rfl Try.ntmps16 (by simp) ?_
  simp only [argsF]
  refine go_ ?_
  refine POps_bs0 ?_ (by decide) (by first | (simp [nev, nevA, nevB, Jo, PF.eval, PF.get, PF.wants, cPV, cCell, PV.rows, evBin, evUn, Jp, evLen, loadA, Jm, TyK.agg, partA, St.box?, St.tok?, St.setBox, St.setTok, fillO, spl, PV.ps, PV.one, Jn, aggD, slD, Jg, Jj, Jh, Ji, Jf, Je, *]; done) | fail) (by simp; rfl) (by rfl) (by simp; rfl) (by rfl) (by decide)
  intro g hg
  refine go_ ?_
  refine PW_loop (ι := List Va × Nat) (fun y => y.2 ≤ l.length ∧ Hid (y.1 = l.take y.2)) (fun y => [(0, .d (.sl (l.map encD))), (3, .own g (y.1.map encD)), (4, .d (.v (.int .i64 (y.2 : Int))))]) (fun y => [.tok g 89 4 y.1.length]) (fun y => l.length - y.2) ([], 0) ⟨Nat.zero_le _, rfl⟩ ?_ ?_ ?_
  · repeat (first | exact Js _ | refine Jr (by simp [PF.get]; rfl) (by first | rfl | (simp [*]; done) | fail) ?_)
  · repeat (first | exact List.Sublist.refl _ | exact List.nil_sublist _ | refine List.Sublist.cons_cons _ ?_ | refine List.Sublist.cons _ ?_)
  · rintro ⟨m, j⟩ ⟨hj, hm⟩
    simp only at hj hm ⊢
    by_cases hlt : j < l.length
    · have hx := get_enc hlt
      have hc : (j : Int) < l.length := by omega
      have hn : (0 : Int) ≤ j := by omega
      have hin := wr64 (n := (j : Int) + 1) (by omega) (by omega)
      have hM : Hid (m ++ [l[j]] = l.take (j + 1)) := by show _ = _; rw [List.take_succ_eq_append_getElem hlt, show m = _ from hm.out]
      have hml : m.length ≤ 100000 := by rw [show m = _ from hm.out, List.length_take]; omega
      clear hm
      refine go_ ?_
      refine PW_drawn [(0, .a), (1, .a), (2, .a), (3, .a), (4, .a), (5, .a), (6, .a), (7, .a), (8, .a), (9, .a), (10, .a), (11, .a), (12, .a), (13, .e), (14, .a)] (by kernel_rfl) (by rfl) (by kernel_rfl) ?_
      refine go_ ?_
      refine POrd_bs_a ?_
      refine go_ ?_
      refine POrd_app_a (m.length + 1) ?_ ?_ ?_ ?_
      · simp
      · exact rows_of (α := Va) rfl
      · exact rows_one rfl
      refine go_ ?_
      refine ⟨(m ++ [l[j]], j + 1), ⟨hlt, hM⟩, by simp only; omega, ?_, ?_⟩
      · repeat (first | exact Js _ | refine Jr (by simp [PF.get]; rfl) (by first | rfl | (simp [encD_va]; done) | fail) ?_)
      · simp only [List.length_append, List.length_singleton]
        repeat (first | exact List.Sublist.refl _ | exact List.nil_sublist _ | refine List.Sublist.cons_cons _ ?_ | refine List.Sublist.cons _ ?_)
    · have hc : ¬ (j : Int) < l.length := by omega
      have hf : Hid (m = l) := by show _ = _; rw [show m = _ from hm.out, List.take_of_length_le (by omega)]
      clear hm
      refine go_ ?_
      refine Jl (by simp) (by simp only [Try.results16]; rfl) (by simp [resP, St.box?, PF.get, Jm, TyK.agg, *]; rfl) (List.nil_sublist _) ?_
      exact ⟨by rw [hf.out]; rfl, rfl⟩
end Go.Proofs.Ytfnfbbmegdkhjaa

namespace Go.Proofs.Ytfnfbbmegdkhjaa
open Go.RowKit
set_option maxRecDepth 100000
/-- may a number be? -/
def fitsB (n : Int) : Bool := decide (0 ≤ n) && decide (n ≤ 1048576)
theorem ffits_p (n : Int) : PCalls Try.prog 103 [.d (.v (.int .i64 n))] [] fun p s => p = .d (.v (.bool (fitsB n))) ∧ s = [] := by
  unfold fitsB
  by_cases h0 : 0 ≤ n
  · by_cases h1 : n ≤ 1048576
    · rw [decide_eq_true h0, decide_eq_true h1]
      refine PCalls.enter Try.func103 rfl Try.ntmps103 (by simp) ?_
      simp only [argsF]
      refine go_ ?_
      refine Jl (by simp) (by simp only [Try.results103]; rfl) (by simp [resP, St.box?, PF.get, Jm, TyK.agg, *]; rfl) (List.nil_sublist _) ?_
      exact ⟨rfl, rfl⟩
    · rw [decide_eq_true h0, decide_eq_false h1]
      refine PCalls.enter Try.func103 rfl Try.ntmps103 (by simp) ?_
      simp only [argsF]
      refine go_ ?_
      refine Jl (by simp) (by simp only [Try.results103]; rfl) (by simp [resP, St.box?, PF.get, Jm, TyK.agg, *]; rfl) (List.nil_sublist _) ?_
      exact ⟨rfl, rfl⟩
  · rw [decide_eq_false h0, Bool.false_and]
    refine PCalls.enter Try.func103 rfl Try.ntmps103 (by simp) ?_
    simp only [argsF]
    refine go_ ?_
    refine Jl (by simp) (by simp only [Try.results103]; rfl) (by simp [resP, St.box?, PF.get, Jm, TyK.agg, *]; rfl) (List.nil_sublist _) ?_
    exact ⟨rfl, rfl⟩
/-- the place of a number, from the i-th on -/
def plF (n : Int) : List Va → Nat → Option Nat
  | [], _ => none
  | x :: r, i => if (x.n == n) = true then some i else plF n r (i + 1)
def plI : Option Nat → Int
  | some i => i
  | none => -1
set_option maxHeartbeats 8000000 in
theorem rplace22_p (l : List Va) (n : Int) : PCalls Try.prog 32 [.d (.sl (l.map encD)), .d (.v (.int .i64 n))] [] fun p s => p = .d (.v (.int .i64 (plI (plF n l 0)))) ∧ s = [] := by
  obtain ⟨R, hR⟩ : ∃ R, R = plF n l 0 := ⟨_, rfl⟩
  rw [← hR]
  have HR : Hid (R = plF n (l.drop 0) 0) := hR
  clear hR
  refine PCalls.enter Try.func32 rfl Try.ntmps32 (by simp) ?_
  simp only [argsF]
  refine PW_slen (t := 0) (rows := l.map encD) (by simp [PF.get] <;> rfl) rfl fun hml => ?_
  rw [List.length_map] at hml
  unfold maxLen at hml
  refine go_ ?_
  refine PW_loop (ι := Nat) (fun y => y ≤ l.length ∧ Hid (R = plF n (l.drop y) y)) (fun y => [(0, .d (.sl (l.map encD))), (1, .d (.v (.int .i64 n))), (5, .d (.v (.int .i64 (y : Int))))]) (fun _ => []) (fun y => l.length - y) 0 ⟨Nat.zero_le _, HR.out⟩ ?_ ?_ ?_
  · repeat (first | exact Js _ | refine Jr (by simp [PF.get]; rfl) (by first | rfl | (simp [*]; done) | fail) ?_)
  · repeat (first | exact List.Sublist.refl _ | exact List.nil_sublist _ | refine List.Sublist.cons_cons _ ?_ | refine List.Sublist.cons _ ?_)
  · rintro j ⟨hj, hR⟩
    clear HR
    by_cases hlt : j < l.length
    · have hx := get_enc hlt
      have hc : (j : Int) < l.length := by omega
      have hn : (0 : Int) ≤ j := by omega
      have hin := wr64 (n := (j : Int) + 1) (by omega) (by omega)
      have hR2 : Hid (R = if (l[j].n == n) = true then some j else plF n (l.drop (j + 1)) (j + 1)) := by
        rw [show R = _ from hR.out, List.drop_eq_getElem_cons hlt]; rfl
      clear hR
      cases hq : (l[j].n == n) with
      | true =>
        have hf : Hid (R = some j) := by show _ = _; rw [show R = _ from hR2.out, hq]; rfl
        clear hR2
        refine go_ ?_
        refine Jl (by simp) (by simp only [Try.results32]; rfl) (by simp [resP, St.box?, PF.get, Jm, TyK.agg, *]; rfl) (List.nil_sublist _) ?_
        exact ⟨by rw [hf.out]; rfl, rfl⟩
      | false =>
        have hR3 : Hid (R = plF n (l.drop (j + 1)) (j + 1)) := by show _ = _; rw [show R = _ from hR2.out, hq]; rfl
        clear hR2
        refine go_ ?_
        exact ⟨j + 1, ⟨hlt, hR3⟩, by omega, by repeat (first | exact Js _ | refine Jr (by simp [PF.get]; rfl) (by first | rfl | (simp [*]; done) | fail) ?_), by repeat (first | exact List.Sublist.refl _ | exact List.nil_sublist _ | refine List.Sublist.cons_cons _ ?_ | refine List.Sublist.cons _ ?_)⟩
    · have hc : ¬ (j : Int) < l.length := by omega
      have hf : Hid (R = none) := by rw [show R = _ from hR.out, List.drop_of_length_le (by omega)]; rfl
      refine go_ ?_
      refine Jl (by simp) (by simp only [Try.results32]; rfl) (by simp [resP, St.box?, PF.get, Jm, TyK.agg, *]; rfl) (List.nil_sublist _) ?_
      exact ⟨by rw [hf.out]; rfl, rfl⟩
set_option maxHeartbeats 8000000 in
theorem rin22_p (l : List Int) (n : Int) : PCalls Try.prog 61 [.d (.sl (l.map encD)), .d (.v (.int .i64 n))] [] fun p s => p = .d (.v (.bool (l.any (fun x => x == n)))) ∧ s = [] := by
  obtain ⟨R, hR⟩ : ∃ R, R = l.any (fun x => x == n) := ⟨_, rfl⟩
  rw [← hR]
  have HR : Hid (R = (l.drop 0).any (fun x => x == n)) := hR
  clear hR
  refine PCalls.enter Try.func61 rfl Try.ntmps61 (by simp) ?_
  simp only [argsF]
  refine PW_slen (t := 0) (rows := l.map encD) (by simp [PF.get] <;> rfl) rfl fun hml => ?_
  rw [List.length_map] at hml
  unfold maxLen at hml
  refine go_ ?_
  refine PW_loop (ι := Nat) (fun y => y ≤ l.length ∧ Hid (R = (l.drop y).any (fun x => x == n))) (fun y => [(0, .d (.sl (l.map encD))), (1, .d (.v (.int .i64 n))), (5, .d (.v (.int .i64 (y : Int))))]) (fun _ => []) (fun y => l.length - y) 0 ⟨Nat.zero_le _, HR.out⟩ ?_ ?_ ?_
  · repeat (first | exact Js _ | refine Jr (by simp [PF.get]; rfl) (by first | rfl | (simp [*]; done) | fail) ?_)
  · repeat (first | exact List.Sublist.refl _ | exact List.nil_sublist _ | refine List.Sublist.cons_cons _ ?_ | refine List.Sublist.cons _ ?_)
  · rintro j ⟨hj, hR⟩
    clear HR
    by_cases hlt : j < l.length
    · have hx := get_enc hlt
      have hc : (j : Int) < l.length := by omega
      have hn : (0 : Int) ≤ j := by omega
      have hin := wr64 (n := (j : Int) + 1) (by omega) (by omega)
      have hR2 : Hid (R = ((l[j] == n) || (l.drop (j + 1)).any (fun x => x == n))) := by
        rw [show R = _ from hR.out, List.drop_eq_getElem_cons hlt]; rfl
      clear hR
      cases hq : (l[j] == n) with
      | true =>
        have hf : Hid (R = true) := by show _ = _; rw [show R = _ from hR2.out, hq]; rfl
        clear hR2
        refine go_ ?_
        refine Jl (by simp) (by simp only [Try.results61]; rfl) (by simp [resP, St.box?, PF.get, Jm, TyK.agg, *]; rfl) (List.nil_sublist _) ?_
        exact ⟨by rw [hf.out]; rfl, rfl⟩
      | false =>
        have hR3 : Hid (R = (l.drop (j + 1)).any (fun x => x == n)) := by show _ = _; rw [show R = _ from hR2.out, hq]; rfl
        clear hR2
        refine go_ ?_
        exact ⟨j + 1, ⟨hlt, hR3⟩, by omega, by repeat (first | exact Js _ | refine Jr (by simp [PF.get]; rfl) (by first | rfl | (simp [*]; done) | fail) ?_), by repeat (first | exact List.Sublist.refl _ | exact List.nil_sublist _ | refine List.Sublist.cons_cons _ ?_ | refine List.Sublist.cons _ ?_)⟩
    · have hc : ¬ (j : Int) < l.length := by omega
      have hf : Hid (R = false) := by rw [show R = _ from hR.out, List.drop_of_length_le (by omega)]; rfl
      refine go_ ?_
      refine Jl (by simp) (by simp only [Try.results61]; rfl) (by simp [resP, St.box?, PF.get, Jm, TyK.agg, *]; rfl) (List.nil_sublist _) ?_
      exact ⟨by rw [hf.out]; rfl, rfl⟩
/-- the size of terms, as long as it is small -/
def szV : List Va → Int → Int
  | [], n => n
  | v :: r, n => if n < 6000 then szV r (n + csizeT v.ty) else n
theorem csize_bd (t : Tm) : 0 ≤ csizeT t ∧ csizeT t ≤ 8193 := by
  have h : csizeT t = min (0 + (cndL [t] : Int)) 8193 := by unfold csizeT; rw [csz_nd t 0 (by decide) (by decide)]; simp only [cndL]; omega
  omega
/-- has a context few variables, of small types? -/
def lightB (l : List Va) : Bool := decide ((l.length : Int) ≤ 300) && decide (szV l 0 < 6000)
set_option maxHeartbeats 8000000 in
theorem law22light_p (l : List Va) : PCalls Try.prog 10 [.d (.sl (l.map encD))] [] fun p s => p = .d (.v (.bool (lightB l))) ∧ s = [] := by
  unfold lightB
  by_cases h3 : (l.length : Int) ≤ 300
  rotate_left
  · rw [decide_eq_false h3, Bool.false_and]
    have h3' : (300 : Int) < l.length := by omega
    refine PCalls.enter Try.func10 rfl Try.ntmps10 (by simp) ?_
    simp only [argsF]
    refine go_ ?_
    refine Jl (by simp) (by simp only [Try.results10]; rfl) (by simp [resP, St.box?, PF.get, Jm, TyK.agg, *]; rfl) (List.nil_sublist _) ?_
    exact ⟨rfl, rfl⟩
  rw [decide_eq_true h3, Bool.true_and]
  obtain ⟨R, hR⟩ : ∃ R, R = szV l 0 := ⟨_, rfl⟩
  rw [← hR]
  have HR : Hid (R = szV (l.drop 0) 0) := hR
  clear hR
  refine PCalls.enter Try.func10 rfl Try.ntmps10 (by simp) ?_
  simp only [argsF]
  refine go_ ?_
  refine PW_loop (ι := Nat × Nat) (fun y => y.1 ≤ l.length ∧ y.2 ≤ 20000 ∧ Hid (R = szV (l.drop y.1) y.2)) (fun y => [(0, .d (.sl (l.map encD))), (3, .d (.v (.int .i64 (y.2 : Int)))), (4, .d (.v (.int .i64 (y.1 : Int))))]) (fun _ => []) (fun y => l.length - y.1) (0, 0) ⟨Nat.zero_le _, by decide, HR.out⟩ ?_ ?_ ?_
  · repeat (first | exact Js _ | refine Jr (by simp [PF.get]; rfl) (by first | rfl | (simp [*]; done) | fail) ?_)
  · repeat (first | exact List.Sublist.refl _ | exact List.nil_sublist _ | refine List.Sublist.cons_cons _ ?_ | refine List.Sublist.cons _ ?_)
  · rintro ⟨j, m⟩ ⟨hj, hm, hR⟩
    simp only at hj hm hR ⊢
    clear HR
    by_cases hlt : j < l.length
    · have hx := get_enc hlt
      have hc : (j : Int) < l.length := by omega
      have hn : (0 : Int) ≤ j := by omega
      have hin := wr64 (n := (j : Int) + 1) (by omega) (by omega)
      have hR2 : Hid (R = if (m : Int) < 6000 then szV (l.drop (j + 1)) (m + csizeT l[j].ty) else m) := by
        rw [show R = _ from hR.out, List.drop_eq_getElem_cons hlt]; rfl
      clear hR
      by_cases h6 : (m : Int) < 6000
      · obtain ⟨b1, b2⟩ := csize_bd l[j].ty
        have hc1 := Lib.hid (rSize_p l[j].ty)
        simp only [aggD, Jk, List.map_cons, List.map_nil] at hc1
        obtain ⟨c, hcz⟩ : ∃ c : Nat, csizeT l[j].ty = c := ⟨(csizeT l[j].ty).toNat, by omega⟩
        rw [hcz] at hc1 b2
        have hR3 : Hid (R = szV (l.drop (j + 1)) ((m + c : Nat) : Int)) := by show _ = _; rw [show R = _ from hR2.out, if_pos h6, hcz]; rfl
        have hw := wr64 (n := (m : Int) + c) (by omega) (by omega)
        have hk : m + c ≤ 20000 := by omega
        clear hR2 hcz b1 b2
        refine go_ ?_
        refine go_ ?_
        refine Jb (hc1.out) ?_
        refine go_ ?_
        exact ⟨(j + 1, m + c), ⟨hlt, hk, hR3⟩, by simp only; omega, by simp only [Int.natCast_add]; repeat (first | exact Js _ | refine Jr (by simp [PF.get]; rfl) (by first | rfl | (simp [*]; done) | fail) ?_), by repeat (first | exact List.Sublist.refl _ | exact List.nil_sublist _ | refine List.Sublist.cons_cons _ ?_ | refine List.Sublist.cons _ ?_)⟩
      · have hf : Hid (R = m) := by show _ = _; rw [show R = _ from hR2.out, if_neg h6]
        have hF : decide (R < 6000) = false := by rw [hf.out]; exact decide_eq_false h6
        rw [hF]
        clear hR2
        refine go_ ?_
        refine Jl (by simp) (by simp only [Try.results10]; rfl) (by simp [resP, St.box?, PF.get, Jm, TyK.agg, *]; rfl) (List.nil_sublist _) ?_
        exact ⟨rfl, rfl⟩
    · have hc : ¬ (j : Int) < l.length := by omega
      have hf : Hid (R = m) := by rw [show R = _ from hR.out, List.drop_of_length_le (by omega)]; rfl
      by_cases h6 : (m : Int) < 6000
      · have hF : decide (R < 6000) = true := by rw [hf.out]; exact decide_eq_true h6
        rw [hF]
        refine go_ ?_
        refine Jl (by simp) (by simp only [Try.results10]; rfl) (by simp [resP, St.box?, PF.get, Jm, TyK.agg, *]; rfl) (List.nil_sublist _) ?_
        exact ⟨rfl, rfl⟩
      · have hF : decide (R < 6000) = false := by rw [hf.out]; exact decide_eq_false h6
        rw [hF]
        refine go_ ?_
        refine Jl (by simp) (by simp only [Try.results10]; rfl) (by simp [resP, St.box?, PF.get, Jm, TyK.agg, *]; rfl) (List.nil_sublist _) ?_
        exact ⟨rfl, rfl⟩
end Go.Proofs.Ytfnfbbmegdkhjaa

namespace Go.Proofs.Ytfnfbbmegdkhjaa
open Go.RowKit Go.WideMaps
/-- how often a number was told -/
def cntZ (l : List Int) (k : Int) : Nat := (l.filter (fun x => x == k)).length
/-- how often each number was told (the list is the other way round) -/
def bagD : List Int → DataW Unit
  | [] => .map []
  | x :: r => (bagD r).put (.int .i64 x) (.lit (.int .i64 ((cntZ r x : Int) + 1)))
theorem bagD_map : ∀ l, Maps.IsMap (bagD l)
  | [] => ⟨_, rfl⟩
  | x :: r => by
    obtain ⟨es, h⟩ := bagD_map r
    rw [bagD, h]
    exact ⟨_, rfl⟩
theorem cntZ_cons (l : List Int) (x k : Int) : cntZ (x :: l) k = cntZ l k + (if (x == k) = true then 1 else 0) := by
  unfold cntZ
  by_cases h : x == k <;> simp [h]
theorem lit_ne {x k : Int} (h : ¬ (x == k) = true) : (Lit.int .i64 k) ≠ Lit.int .i64 x := by
  intro e
  simp only [Lit.int.injEq, true_and] at e
  exact h (by simp [e])
theorem bagD_at (k : Int) : ∀ l, (bagD l).atKey (.int .i64 k) (.lit (.int .i64 0)) = .lit (.int .i64 (cntZ l k)) := by
  intro l
  induction l with
  | nil => rfl
  | cons x r ih =>
    have hk : WideAt.IsKeyLit (.int .i64 x) := trivial
    rw [bagD]
    by_cases he : (x == k) = true
    · obtain rfl : x = k := beq_iff_eq.1 he
      rw [Maps.atKey_put_same (bagD_map r) hk, cntZ_cons, if_pos he]
      simp
    · rw [Maps.atKey_put_other (lit_ne he), ih, cntZ_cons, if_neg he]
      rfl
theorem cntZ_pos {l : List Int} {k : Int} : 0 < cntZ l k ↔ k ∈ l := by
  unfold cntZ
  rw [List.length_pos_iff_exists_mem]
  constructor
  · rintro ⟨x, hx⟩
    rw [List.mem_filter] at hx
    rw [← beq_iff_eq.1 hx.2]; exact hx.1
  · intro h
    exact ⟨k, List.mem_filter.2 ⟨h, by simp⟩⟩
theorem cntZ_le (l : List Int) (k : Int) : cntZ l k ≤ l.length := List.length_filter_le _ _
/-- the first place of a number (the list is the other way round) -/
def idxR : List Int → Int → Option Nat
  | [], _ => none
  | x :: r, n => match idxR r n with
    | some i => some i
    | none => if (x == n) = true then some r.length else none
def atD : List Int → DataW Unit
  | [] => .map []
  | x :: r => match idxR r x with
    | some _ => atD r
    | none => (atD r).put (.int .i64 x) (.lit (.int .i64 (r.length : Int)))
theorem key_lit (x : Int) : WideAt.IsKeyLit (.int .i64 x) := trivial
theorem atD_tidy : ∀ l, Maps.Tidy (atD l)
  | [] => ⟨[], rfl, List.Pairwise.nil⟩
  | x :: r => by
    have h := atD_tidy r
    rw [atD]
    split
    · exact h
    · exact h.put (key_lit _) _
theorem idxR_none {l : List Int} {n : Int} : idxR l n = none ↔ n ∉ l := by
  induction l with
  | nil => simp [idxR]
  | cons x r ih =>
    rw [idxR]
    cases h : idxR r n with
    | some i =>
      have : ¬ n ∉ r := fun e => by rw [ih.2 e] at h; cases h
      simp only [reduceCtorEq, List.mem_cons, false_iff]
      intro e
      exact this fun h => e (.inr h)
    | none =>
      have hm := ih.1 h
      by_cases he : (x == n) = true
      · obtain rfl : x = n := beq_iff_eq.1 he
        simp
      · simp only [if_neg he, List.mem_cons, true_iff]
        rintro (e | e)
        · exact he (by simp [e])
        · exact hm e
theorem atD_has (n : Int) : ∀ l, Maps.has (atD l) (.int .i64 n) = (idxR l n).isSome := by
  intro l
  induction l with
  | nil => rfl
  | cons x r ih =>
    rw [atD, idxR]
    cases h : idxR r x with
    | some i =>
      simp only
      rw [ih]
      cases h2 : idxR r n with
      | some j => rfl
      | none =>
        have hm := idxR_none.1 h2
        by_cases he : (x == n) = true
        · obtain rfl : x = n := beq_iff_eq.1 he
          rw [h2] at h; cases h
        · simp only [if_neg he]
    | none =>
      simp only
      by_cases he : (x == n) = true
      · obtain rfl : x = n := beq_iff_eq.1 he
        rw [Maps.has_put_same (atD_tidy r).isMap (key_lit _), h]
        simp only [beq_self_eq_true, if_true, Option.isSome_some]
      · rw [Maps.has_put_other (lit_ne he), ih]
        cases h2 : idxR r n with
        | some j => rfl
        | none => simp only [if_neg he]
def idV : Option Nat → Int
  | some i => i
  | none => 0
theorem atD_at (n : Int) : ∀ l, (atD l).atKey (.int .i64 n) (.lit (.int .i64 0)) = .lit (.int .i64 (idV (idxR l n))) := by
  intro l
  induction l with
  | nil => rfl
  | cons x r ih =>
    rw [atD, idxR]
    cases h : idxR r x with
    | some i =>
      simp only
      rw [ih]
      cases h2 : idxR r n with
      | some j => rfl
      | none =>
        by_cases he : (x == n) = true
        · obtain rfl : x = n := beq_iff_eq.1 he
          rw [h2] at h; cases h
        · simp only [if_neg he]
    | none =>
      simp only
      by_cases he : (x == n) = true
      · obtain rfl : x = n := beq_iff_eq.1 he
        rw [Maps.atKey_put_same (atD_tidy r).isMap (key_lit _), h]
        simp [idV]
      · rw [Maps.atKey_put_other (lit_ne he), ih]
        cases h2 : idxR r n with
        | some j => rfl
        | none => simp only [if_neg he]
theorem atD_size : ∀ l, Maps.size (atD l) ≤ l.length ∧ (Maps.size (atD l) = l.length ↔ l.Nodup) := by
  intro l
  induction l with
  | nil => exact ⟨Nat.le_refl _, by simp [atD, Maps.size_eq]⟩
  | cons x r ih =>
    rw [atD, List.length_cons, List.nodup_cons]
    cases h : idxR r x with
    | some i =>
      simp only
      have hm : x ∈ r := by
        by_cases hx : x ∈ r
        · exact hx
        · rw [idxR_none.2 hx] at h; cases h
      refine ⟨by omega, ⟨fun e => by omega, fun e => absurd hm e.1⟩⟩
    | none =>
      simp only
      have hh := atD_has x r
      rw [h] at hh
      rw [Maps.size_put (atD_tidy r), hh]
      simp only [Option.isSome_none, Bool.false_eq_true, if_false]
      refine ⟨by omega, ⟨fun e => ⟨idxR_none.1 h, ih.2.1 (by omega)⟩, fun e => by rw [ih.2.2 e.2]⟩⟩
/-- the same, in the list's own order -/
theorem plF_snoc (n : Int) (x : Va) : ∀ (a : List Va) (i : Nat), plF n (a ++ [x]) i = match plF n a i with | some j => some j | none => if (x.n == n) = true then some (i + a.length) else none := by
  intro a
  induction a with
  | nil => intro i; simp [plF]
  | cons y r ih =>
    intro i
    simp only [List.cons_append, plF]
    split
    · rfl
    · rw [ih (i + 1), List.length_cons, show i + 1 + r.length = i + (r.length + 1) by omega]
theorem idx_pl (n : Int) (c : List Va) : idxR (c.map Va.n).reverse n = plF n c 0 := by
  have key : ∀ (m : Nat) (c : List Va), c.length = m → idxR (c.map Va.n).reverse n = plF n c 0 := by
    intro m
    induction m with
    | zero => intro c hc; rw [List.length_eq_zero_iff.1 hc]; rfl
    | succ m ih =>
      intro c hc
      rcases List.eq_nil_or_concat c with rfl | ⟨a, x, rfl⟩
      · cases hc
      · simp only [List.concat_eq_append, List.length_append, List.length_singleton] at hc ⊢
        rw [plF_snoc, List.map_append, List.reverse_append, Nat.zero_add, ← ih a (by omega)]
        simp only [List.map_cons, List.map_nil, List.reverse_cons, List.reverse_nil, List.nil_append, List.singleton_append, idxR, List.length_reverse, List.length_map]
  exact key _ c rfl
/-- a named variable stands in a term -/
theorem sd_cl : ∀ (t : Tm) (n : Int), goodB t = true → (sdT t n = true ↔ n ∈ clT 8 8 t) := by
  refine Tm.ind ?_
  intro k m sub ih n hg
  obtain ⟨hh, hs⟩ := good_parts hg
  have hn := head_num hh
  simp only [sdT, clT]
  by_cases h8 : k = 8
  · subst h8
    have : sub = [] := List.length_eq_zero_iff.1 (by have := hn.2.2.2.2; simp [subsOf] at this; simpa using this)
    subst this
    simp only [beq_self_eq_true, if_true, or_self, clS, List.append_nil, List.mem_singleton, beq_iff_eq]
    exact ⟨fun h => h.symm, fun h => h.symm⟩
  · have h8' : ¬ (k == 8) = true := by simpa using h8
    rw [if_neg h8', if_neg (by simpa using h8), List.nil_append]
    clear hg hh hn h8'
    induction sub with
    | nil => simp [sdL, clS]
    | cons t ts iht =>
      simp only [sdL, clS, Bool.or_eq_true, List.mem_append]
      have e1 := ih t (by simp) n (hs t (by simp))
      have e2 := iht (fun s h => ih s (by simp [h])) fun s h => hs s (by simp [h])
      exact or_congr e1 e2
theorem frees_sd {t : Tm} (h : shapedB t = true) (n : Int) : n ∈ enT 8 8 t ↔ sdT t n = true := by
  unfold enT
  rw [if_pos h, nm_cl, sd_cl t n (shaped_hg h).1]
theorem frees_len (t : Tm) : (enT 8 8 t).length ≤ 8192 := by
  unfold enT
  split
  · rename_i h; have := nm_len 8 8 t; have := (shaped_hg h).2.2; omega
  · exact Nat.zero_le _
end Go.Proofs.Ytfnfbbmegdkhjaa

namespace Go.Proofs.Ytfnfbbmegdkhjaa
open Go.RowKit
/-- does any of these variables stand in a term -/
def anyIn (t : Tm) (c : List Va) : Bool := c.any fun v => sdT t v.n
def readyG (c : List Va) : List Va → Nat → Option Nat
  | [], _ => none
  | v :: r, i => if anyIn v.ty c = true then readyG c r (i + 1) else some i
def readyV (c : List Va) : Option Nat := readyG c c 0
def fitV (v : Va) : Bool := fitsB v.n && shapedB v.ty
def shapedV (c : List Va) : Bool := c.all fitV && decide ((c.length : Int) ≤ 256)
def onceV (c : List Va) : Bool := decide (c.map Va.n).Nodup
/-- no loose variable, and none of these stands there -/
def closedG : List Va → Bool
  | [] => true
  | v :: r => decide (lsT v.ty 0 ≤ 0) && !(anyIn v.ty (v :: r)) && closedG r
def rightV (c : List Va) : Bool := shapedV c && onceV c && closedG c
def orderG : Nat → List Va → Option (List Va)
  | 0, _ => some []
  | m + 1, left => match readyV left with
    | none => none
    | some i => match left[i]? with
      | none => none
      | some v => (orderG m (left.eraseIdx i)).map fun l => v :: l
def orderR (c : List Va) : List Va × Int :=
  if shapedV c = false then ([], 5) else if onceV c = false then ([], 4) else match orderG c.length c with
    | none => ([], 3)
    | some l => (l, 0)
/-- each one's type has none of those that stand from it on -/
def inOrd : List Va → Bool
  | [] => true
  | v :: r => !(anyIn v.ty (v :: r)) && inOrd r
theorem readyG_some {c : List Va} : ∀ {r : List Va} {i j : Nat}, readyG c r i = some j → i ≤ j ∧ ∃ v, r[j - i]? = some v ∧ anyIn v.ty c = false := by
  intro r
  induction r with
  | nil => intro i j h; cases h
  | cons v r ih =>
    intro i j h
    rw [readyG] at h
    split at h
    · obtain ⟨h1, x, h2, h3⟩ := ih h
      refine ⟨by omega, x, ?_, h3⟩
      rw [show j - i = (j - (i + 1)) + 1 by omega]
      exact h2
    · rename_i hn
      obtain rfl := Option.some.inj h
      refine ⟨Nat.le_refl _, v, by rw [Nat.sub_self]; rfl, by simpa using hn⟩
theorem readyV_some {c : List Va} {j : Nat} (h : readyV c = some j) : ∃ v, c[j]? = some v ∧ anyIn v.ty c = false := by
  obtain ⟨-, v, h2, h3⟩ := readyG_some h
  exact ⟨v, h2, h3⟩
theorem anyIn_perm {t : Tm} {a b : List Va} (h : a.Perm b) : anyIn t a = anyIn t b := h.any_eq
theorem erase_perm : ∀ (l : List Va) (i : Nat) (v : Va), l[i]? = some v → (v :: l.eraseIdx i).Perm l := by
  intro l
  induction l with
  | nil => intro i v h; simp at h
  | cons x l ih =>
    intro i v h
    cases i with
    | zero =>
      simp only [List.getElem?_cons_zero, Option.some.injEq] at h
      subst h
      exact List.Perm.refl _
    | succ i =>
      simp only [List.getElem?_cons_succ] at h
      exact (List.Perm.swap x v _).trans ((ih i v h).cons x)
theorem orderG_ok : ∀ (m : Nat) (left l : List Va), left.length = m → orderG m left = some l → l.Perm left ∧ inOrd l = true := by
  intro m
  induction m with
  | zero =>
    intro left l hl h
    obtain rfl := List.length_eq_zero_iff.1 hl
    obtain rfl := Option.some.inj h
    exact ⟨List.Perm.refl _, rfl⟩
  | succ m ih =>
    intro left l hl h
    rw [orderG] at h
    cases hr : readyV left with
    | none => rw [hr] at h; cases h
    | some i =>
      rw [hr] at h
      simp only at h
      obtain ⟨v, hv, ha⟩ := readyV_some hr
      rw [hv] at h
      simp only at h
      have hi : i < left.length := (List.getElem?_eq_some_iff.1 hv).1
      cases ho : orderG m (left.eraseIdx i) with
      | none => rw [ho] at h; cases h
      | some q =>
        rw [ho] at h
        obtain rfl := Option.some.inj h
        obtain ⟨hp, hi2⟩ := ih _ _ (by rw [List.length_eraseIdx, if_pos hi]; omega) ho
        have hp2 : (v :: q).Perm left := (hp.cons v).trans (erase_perm _ _ _ hv)
        refine ⟨hp2, ?_⟩
        rw [inOrd, anyIn_perm hp2, ha, hi2]; rfl
theorem inOrd_order : ∀ (l : List Va), inOrd l = true → orderG l.length l = some l := by
  intro l
  induction l with
  | nil => intro _; rfl
  | cons v r ih =>
    intro h
    rw [inOrd, Bool.and_eq_true] at h
    have ha : anyIn v.ty (v :: r) = false := by simpa using h.1
    have hr : readyV (v :: r) = some 0 := by
      unfold readyV
      rw [readyG, if_neg (by rw [ha]; simp)]
    rw [List.length_cons, orderG, hr]
    simp only [List.getElem?_cons_zero, List.eraseIdx_zero, List.tail_cons]
    rw [ih h.2]; rfl
theorem shapedV_perm {a b : List Va} (h : a.Perm b) : shapedV a = shapedV b := by
  unfold shapedV
  rw [h.all_eq, h.length_eq]
theorem onceV_perm {a b : List Va} (h : a.Perm b) : onceV a = onceV b := by
  unfold onceV
  rw [decide_eq_decide]
  exact (h.map _).nodup_iff
/-- have they no loose variables? -/
def tightV (c : List Va) : Bool := c.all fun v => decide (lsT v.ty 0 ≤ 0)
theorem closedG_eq : ∀ (l : List Va), closedG l = (tightV l && inOrd l) := by
  intro l
  induction l with
  | nil => rfl
  | cons v r ih =>
    rw [closedG, ih]
    unfold tightV
    rw [List.all_cons, inOrd]
    cases decide (lsT v.ty 0 ≤ 0) <;> cases (!anyIn v.ty (v :: r)) <;> simp
theorem orderR_twice {c l : List Va} (h : orderR c = (l, 0)) : l.Perm c ∧ shapedV l = true ∧ orderR l = (l, 0) ∧ rightV l = tightV l := by
  unfold orderR at h
  cases h1 : shapedV c with
  | false => rw [h1] at h; simp at h
  | true =>
    cases h2 : onceV c with
    | false => rw [h1, h2] at h; simp at h
    | true =>
      rw [h1, h2] at h
      simp only [Bool.true_eq_false, if_false] at h
      cases h3 : orderG c.length c with
      | none => rw [h3] at h; simp at h
      | some q =>
        rw [h3] at h
        simp only [Prod.mk.injEq, and_true] at h
        subst h
        obtain ⟨hp, hi⟩ := orderG_ok _ _ _ rfl h3
        have e1 : shapedV q = true := (shapedV_perm hp).trans h1
        have e2 : onceV q = true := (onceV_perm hp).trans h2
        refine ⟨hp, e1, ?_, ?_⟩
        · unfold orderR
          rw [e1, e2, inOrd_order q hi]
          simp
        · unfold rightV
          rw [e1, e2, closedG_eq, hi]
          simp
/-- places, where no number stands twice -/
theorem plF_get {n : Int} : ∀ {c : List Va} {i k : Nat}, plF n c i = some k → i ≤ k ∧ ∃ v, c[k - i]? = some v ∧ v.n = n := by
  intro c
  induction c with
  | nil => intro i k h; cases h
  | cons v r ih =>
    intro i k h
    rw [plF] at h
    split at h
    · rename_i hq
      obtain rfl := Option.some.inj h
      exact ⟨Nat.le_refl _, v, by rw [Nat.sub_self]; rfl, beq_iff_eq.1 hq⟩
    · obtain ⟨h1, x, h2, h3⟩ := ih h
      refine ⟨by omega, x, ?_, h3⟩
      rw [show k - i = (k - (i + 1)) + 1 by omega]
      exact h2
theorem plF_none {n : Int} : ∀ {c : List Va} {i : Nat}, plF n c i = none ↔ n ∉ c.map Va.n := by
  intro c
  induction c with
  | nil => intro i; simp [plF]
  | cons v r ih =>
    intro i
    rw [plF, List.map_cons, List.mem_cons]
    split
    · rename_i hq
      simp only [reduceCtorEq, false_iff]
      intro e
      exact e (.inl (beq_iff_eq.1 hq).symm)
    · rename_i hq
      rw [ih]
      constructor
      · rintro h (e | e)
        · exact hq (by simp [e])
        · exact h e
      · intro h e
        exact h (.inr e)
theorem plF_at : ∀ {c : List Va} {k : Nat} {v : Va} (i : Nat), (c.map Va.n).Nodup → c[k]? = some v → plF v.n c i = some (i + k) := by
  intro c
  induction c with
  | nil => intro k v i _ h; simp at h
  | cons x r ih =>
    intro k v i hn h
    rw [List.map_cons, List.nodup_cons] at hn
    cases k with
    | zero =>
      simp only [List.getElem?_cons_zero, Option.some.injEq] at h
      subst h
      rw [plF, if_pos (by simp)]; rfl
    | succ k =>
      simp only [List.getElem?_cons_succ] at h
      rw [plF, if_neg, ih (i + 1) hn.2 h, show i + 1 + k = i + (k + 1) by omega]
      intro e
      have e2 := beq_iff_eq.1 e
      exact hn.1 (e2 ▸ List.mem_map.2 ⟨v, List.mem_of_getElem? h, rfl⟩)
/-- is there a place, from i on? -/
def geP (o : Option Nat) (i : Nat) : Bool := match o with
  | some k => decide (i ≤ k)
  | none => false
theorem geP_iff {o : Option Nat} {i : Nat} : geP o i = true ↔ ∃ k, o = some k ∧ i ≤ k := by
  cases o with
  | none => simp [geP]
  | some k => simp [geP]
/-- the walk's question, and the document's -/
theorem any_place {c : List Va} {t : Tm} (hc : (c.map Va.n).Nodup) (ht : shapedB t = true) (i : Nat) :
    (enT 8 8 t).any (fun n => geP (plF n c 0) i) = anyIn t (c.drop i) := by
  rw [Bool.eq_iff_iff, List.any_eq_true]
  unfold anyIn
  rw [List.any_eq_true]
  constructor
  · rintro ⟨n, hn, hk⟩
    obtain ⟨k, h1, h2⟩ := geP_iff.1 hk
    obtain ⟨-, v, h3, h4⟩ := plF_get h1
    refine ⟨v, ?_, ?_⟩
    · refine List.mem_of_getElem? (i := k - i) ?_
      rw [List.getElem?_drop, show i + (k - i) = k - 0 by omega]
      exact h3
    · rw [h4]; exact (frees_sd ht n).1 hn
  · rintro ⟨v, hv, hs⟩
    obtain ⟨j, hj⟩ := List.mem_iff_getElem?.1 hv
    rw [List.getElem?_drop] at hj
    refine ⟨v.n, (frees_sd ht v.n).2 hs, geP_iff.2 ⟨i + j, ?_, by omega⟩⟩
    rw [plF_at 0 hc hj, Nat.zero_add]
end Go.Proofs.Ytfnfbbmegdkhjaa

namespace Go.Proofs.Ytfnfbbmegdkhjaa
open Go.RowKit
mutual
/-- a term lifted -/
def moveT : Tm → Int → Int → Tm
  | .mk k n sub, d, m => if k = 1 then (if n < m then .mk 1 n [] else .mk 1 (n + d) []) else .mk k n (moveL k sub 0 d m)
def moveL : Int → List Tm → Nat → Int → Int → List Tm
  | _, [], _, _, _ => []
  | k, t :: ts, i, d, m => moveT t d (m + benB k i) :: moveL k ts (i + 1) d m
end
/-- what a node is for one who puts terms in -/
inductive Lf where
  | go
  | put (x : Tm)
  | up (a : Tm) (k : Int)
section
variable (lf : Tm → Int → Lf)
mutual
/-- a term with others put in -/
def subT : Tm → Int → Tm
  | .mk k n sub, b => match lf (.mk k n sub) b with
    | .go => .mk k n (subL k sub 0 b)
    | .put x => x
    | .up a m => moveT a m 0
def subL : Int → List Tm → Nat → Int → List Tm
  | _, [], _, _ => []
  | k, t :: ts, i, b => subT t (b + benB k i) :: subL k ts (i + 1) b
end
mutual
/-- what it costs -/
def coT : Tm → Int → Nat
  | .mk k n sub, b => match lf (.mk k n sub) b with
    | .go => coL k sub 0 b + 1
    | .put _ => 0
    | .up a _ => cndT a
def coL : Int → List Tm → Nat → Int → Nat
  | _, [], _, _ => 0
  | k, t :: ts, i, b => coT t (b + benB k i) + coL k ts (i + 1) b
end
mutual
/-- is what is lifted shaped? -/
def okT : Tm → Int → Bool
  | .mk k n sub, b => match lf (.mk k n sub) b with
    | .go => okL k sub 0 b
    | .put _ => true
    | .up a m => shapedB (moveT a m 0)
def okL : Int → List Tm → Nat → Int → Bool
  | _, [], _, _ => true
  | k, t :: ts, i, b => okT t (b + benB k i) && okL k ts (i + 1) b
end
end
/-- a term that is lifted, or why not -/
def liftR (t : Tm) (k n : Int) : Tm × Int :=
  if (shapedB t && fitsB k && fitsB n) = true then (if shapedB (moveT t k n) = true then (moveT t k n, 0) else (.mk 0 0 [], 2)) else (.mk 0 0 [], 5)
def upS (a : Tm) (m L : Int) : Tm × Int × Bool :=
  if L - csizeT a < 0 then (.mk 2 0 [], L - csizeT a, true) else if (liftR a m 0).2 = 0 then ((liftR a m 0).1, L - csizeT a, false) else (.mk 2 0 [], L - csizeT a, true)
section
variable (lf : Tm → Int → Lf)
mutual
/-- the program's walk: what is left, and was it too long? -/
def wkT : Tm → Int → Int → Bool → Tm × Int × Bool
  | .mk k n sub, b, L, G => if G = true then (.mk 2 0 [], L, true) else match lf (.mk k n sub) b with
    | .go => (.mk k n (wkL k sub 0 b (L - 1) (decide (L - 1 < 0))).1, (wkL k sub 0 b (L - 1) (decide (L - 1 < 0))).2)
    | .put x => (x, L, false)
    | .up a m => upS a m L
def wkL : Int → List Tm → Nat → Int → Int → Bool → List Tm × Int × Bool
  | _, [], _, _, L, G => ([], L, G)
  | k, t :: ts, i, b, L, G => ((wkT t (b + benB k i) L G).1 :: (wkL k ts (i + 1) b (wkT t (b + benB k i) L G).2.1 (wkT t (b + benB k i) L G).2.2).1, (wkL k ts (i + 1) b (wkT t (b + benB k i) L G).2.1 (wkT t (b + benB k i) L G).2.2).2)
end
def subsS (k n : Int) (l : List (Tm × Bool)) : Tm × Bool :=
  if (l.any (fun x => x.2) || decide (8192 < csizeT (.mk k n (l.map fun x => x.1)))) = true then (.mk 2 0 [], true) else (.mk k n (l.map fun x => x.1), false)
mutual
/-- the document's: is it too great? -/
def gtT : Tm → Int → Tm × Bool
  | .mk k n sub, b => match lf (.mk k n sub) b with
    | .go => subsS k n (gtL k sub 0 b)
    | .put x => (x, false)
    | .up a m => (moveT a m 0, !shapedB (moveT a m 0))
def gtL : Int → List Tm → Nat → Int → List (Tm × Bool)
  | _, [], _, _ => []
  | k, t :: ts, i, b => gtT t (b + benB k i) :: gtL k ts (i + 1) b
end
end
/-- what comes of it -/
def doneS (x : Tm) : Tm × Int := if shapedB x = true then (x, 0) else (.mk 0 0 [], 2)
theorem move_nd : ∀ (t : Tm) (d m : Int), goodB t = true → cndT (moveT t d m) = cndT t ∧ chgT (moveT t d m) = chgT t := by
  refine Tm.ind ?_
  intro k n sub ih d m hg
  simp only [moveT]
  by_cases h1 : k = 1
  · subst h1
    obtain rfl := good_1 hg
    simp only [if_true]
    split <;> exact ⟨rfl, rfl⟩
  · rw [if_neg h1]
    have hs := (good_parts hg).2
    clear hg
    have key : ∀ (l : List Tm) (i : Nat), (∀ s ∈ l, ∀ (d m : Int), goodB s = true → cndT (moveT s d m) = cndT s ∧ chgT (moveT s d m) = chgT s) → (∀ s ∈ l, goodB s = true) → cndL (moveL k l i d m) = cndL l ∧ chgL (moveL k l i d m) = chgL l := by
      intro l
      induction l with
      | nil => intro i _ _; exact ⟨rfl, rfl⟩
      | cons t ts iht =>
        intro i h1 h2
        obtain ⟨e1, e2⟩ := h1 t (by simp) d (m + benB k i) (h2 t (by simp))
        obtain ⟨e3, e4⟩ := iht (i + 1) (fun s h => h1 s (by simp [h])) fun s h => h2 s (by simp [h])
        simp only [moveL, cndL, chgL, e1, e2, e3, e4]
        exact ⟨trivial, trivial⟩
    obtain ⟨e1, e2⟩ := key sub 0 ih hs
    simp only [cndT, chgT, e1, e2]
    exact ⟨trivial, trivial⟩
theorem shaped_mk {t : Tm} (h1 : goodB t = true) (h2 : chgT t ≤ 128) (h3 : cndT t ≤ 8192) : shapedB t = true := by
  unfold shapedB cdepthT
  have h4 : csizeT t = min (0 + (cndT t : Int)) 8193 := by unfold csizeT; rw [csz_nd t 0 (by decide) (by decide)]
  rw [if_neg (by rw [h4]; omega), cdp_hg t 1 (by decide) (by decide), h1, Bool.and_true, decide_eq_true_eq]
  omega
theorem good_mk {k n : Int} {sub : List Tm} (h : goodB (.mk k n sub) = true) : cheadB (.mk k n sub) = true ∧ cgoodL sub = true := by
  simp only [goodB, Bool.and_eq_true] at h; exact h
section
variable {lf : Tm → Int → Lf}
/-- a walk that costs no more than is left, of what can be lifted -/
theorem wk_true (t : Tm) (b L : Int) : wkT lf t b L true = (.mk 2 0 [], L, true) := by
  cases t; simp only [wkT, if_true]
theorem wkL_true (k : Int) (b L : Int) : ∀ (ts : List Tm) (i : Nat), (wkL lf k ts i b L true).2 = (L, true) := by
  intro ts
  induction ts with
  | nil => intro i; rfl
  | cons t ts ih => intro i; simp only [wkL, wk_true]; exact ih (i + 1)
/-- for binders within bounds -/
def UpIn (lf : Tm → Int → Lf) : Prop := ∀ t b a m, 0 ≤ b → b ≤ 100000 → lf t b = .up a m → shapedB a = true ∧ fitsB m = true
theorem ben_bd (k i : Int) : 0 ≤ benB k i ∧ benB k i ≤ 1 := by unfold benB; split <;> omega
theorem up_ok {a : Tm} {m L : Int} (ha : shapedB a = true) (hm : fitsB m = true) (hL : 0 ≤ L) :
    (shapedB (moveT a m 0) = true ∧ (cndT a : Int) ≤ L → upS a m L = (moveT a m 0, L - cndT a, false)) ∧ (¬ (shapedB (moveT a m 0) = true ∧ (cndT a : Int) ≤ L) → (upS a m L).2.2 = true) := by
  have hc : csizeT a = cndT a := by rw [size_nd]; have := (shaped_hg ha).2.2; omega
  unfold upS liftR
  rw [hc, ha, hm, show fitsB 0 = true from by decide]
  simp only [Bool.and_self, if_true]
  constructor
  · rintro ⟨h1, h2⟩
    rw [if_neg (by omega), h1]
    simp
  · intro h
    by_cases h2 : L - (cndT a : Int) < 0
    · rw [if_pos h2]
    · rw [if_neg h2]
      cases h1 : shapedB (moveT a m 0) with
      | true => exact absurd ⟨h1, by omega⟩ h
      | false => simp
theorem wk_ok (hu : UpIn lf) : ∀ (t : Tm) (b L : Int), 0 ≤ L → 0 ≤ b → b + chgT t ≤ 100000 → (okT lf t b = true ∧ (coT lf t b : Int) ≤ L → wkT lf t b L false = (subT lf t b, L - coT lf t b, false)) ∧
    (¬ (okT lf t b = true ∧ (coT lf t b : Int) ≤ L) → (wkT lf t b L false).2.2 = true) := by
  refine Tm.ind ?_
  intro k n sub ih b L hL hb hbh
  simp only [wkT, subT, coT, okT, Bool.false_eq_true, if_false]
  cases hq : lf (.mk k n sub) b with
  | put x => simp; omega
  | up a m =>
    obtain ⟨ha, hm⟩ := hu _ _ _ _ hb (by omega) hq
    exact up_ok ha hm hL
  | go =>
    simp only
    have hgt : chgT (.mk k n sub) = chgL sub + 1 := by simp only [chgT]
    rw [hgt] at hbh
    have key : ∀ (l : List Tm) (i : Nat) (L : Int), (∀ s ∈ l, s ∈ sub) → b + chgL l + 1 ≤ 100000 → 0 ≤ L → (okL lf k l i b = true ∧ (coL lf k l i b : Int) ≤ L → wkL lf k l i b L false = (subL lf k l i b, L - coL lf k l i b, false)) ∧
        (¬ (okL lf k l i b = true ∧ (coL lf k l i b : Int) ≤ L) → (wkL lf k l i b L false).2.2 = true) := by
      intro l
      induction l with
      | nil => intro i L _ _ hL; simp [wkL, subL, coL, okL]; omega
      | cons t ts iht =>
        intro i L hs hh hL
        have hben := ben_bd k i
        simp only [chgL] at hh
        obtain ⟨e1, e2⟩ := ih t (hs t (by simp)) (b + benB k i) L hL (by omega) (by omega)
        simp only [wkL, subL, coL, okL, Bool.and_eq_true]
        constructor
        · rintro ⟨⟨h1, h2⟩, h3⟩
          rw [e1 ⟨h1, by omega⟩]
          simp only
          obtain ⟨e3, -⟩ := iht (i + 1) (L - coT lf t (b + benB k i)) (fun s h => hs s (by simp [h])) (by omega) (by omega)
          rw [e3 ⟨h2, by omega⟩]
          simp only [Prod.mk.injEq, and_true, true_and]
          omega
        · intro hn
          by_cases h1 : okT lf t (b + benB k i) = true ∧ (coT lf t (b + benB k i) : Int) ≤ L
          · rw [e1 h1]
            simp only
            obtain ⟨-, e4⟩ := iht (i + 1) (L - coT lf t (b + benB k i)) (fun s h => hs s (by simp [h])) (by omega) (by omega)
            refine e4 fun h => hn ⟨⟨h1.1, h.1⟩, by have := h.2; omega⟩
          · rw [e2 h1, wkL_true]
    by_cases h0 : L - 1 < 0
    · rw [decide_eq_true h0, wkL_true]
      refine ⟨fun h => by omega, fun _ => rfl⟩
    · rw [decide_eq_false h0]
      obtain ⟨e1, e2⟩ := key sub 0 (L - 1) (fun _ h => h) (by omega) (by omega)
      refine ⟨fun ⟨h1, h2⟩ => ?_, fun h => e2 fun h2 => h ⟨h2.1, by omega⟩⟩
      rw [e1 ⟨h1, by omega⟩]
      simp only [Prod.mk.injEq, true_and, and_true]
      omega
theorem co_le (hu : UpIn lf) : ∀ (t : Tm) (b : Int), 0 ≤ b → b + chgT t ≤ 100000 → coT lf t b ≤ cndT (subT lf t b) := by
  refine Tm.ind ?_
  intro k n sub ih b hb hbh
  simp only [subT, coT]
  cases hq : lf (.mk k n sub) b with
  | put x => exact Nat.zero_le _
  | up a m =>
    obtain ⟨ha, hm⟩ := hu _ _ _ _ hb (by omega) hq
    simp only
    rw [(move_nd a m 0 (shaped_hg ha).1).1]
    exact Nat.le_refl _
  | go =>
    simp only [cndT]
    have hgt : chgT (.mk k n sub) = chgL sub + 1 := by simp only [chgT]
    rw [hgt] at hbh
    have key : ∀ (l : List Tm) (i : Nat), (∀ s ∈ l, s ∈ sub) → b + chgL l + 1 ≤ 100000 → coL lf k l i b ≤ cndL (subL lf k l i b) := by
      intro l
      induction l with
      | nil => intro i _ _; exact Nat.le_refl _
      | cons t ts iht =>
        intro i hs hh
        have hben := ben_bd k i
        simp only [chgL] at hh
        have h1 := ih t (hs t (by simp)) (b + benB k i) (by omega) (by omega)
        have h2 := iht (i + 1) (fun s h => hs s (by simp [h])) (by omega)
        simp only [coL, subL, cndL]
        omega
    have := key sub 0 (fun _ h => h) (by omega)
    omega
/-- what is shaped was lifted well -/
theorem ok_of : ∀ (t : Tm) (b : Int), goodB (subT lf t b) = true → chgT (subT lf t b) ≤ 128 → cndT (subT lf t b) ≤ 8192 → okT lf t b = true := by
  refine Tm.ind ?_
  intro k n sub ih b
  simp only [subT, okT]
  cases hq : lf (.mk k n sub) b with
  | put x => intro _ _ _; rfl
  | up a m => intro h1 h2 h3; exact shaped_mk h1 h2 h3
  | go =>
    simp only
    intro h1 h2 h3
    have hg := (good_mk h1).2
    simp only [chgT, cndT] at h2 h3
    have key : ∀ (l : List Tm) (i : Nat), (∀ s ∈ l, s ∈ sub) → cgoodL (subL lf k l i b) = true → chgL (subL lf k l i b) ≤ 128 → cndL (subL lf k l i b) ≤ 8192 → okL lf k l i b = true := by
      intro l
      induction l with
      | nil => intro i _ _ _ _; rfl
      | cons t ts iht =>
        intro i hs g1 g2 g3
        simp only [subL, cgoodL, chgL, cndL, Bool.and_eq_true] at g1 g2 g3
        simp only [okL, Bool.and_eq_true]
        exact ⟨ih t (hs t (by simp)) _ g1.1 (by omega) (by omega), iht (i + 1) (fun s h => hs s (by simp [h])) g1.2 (by omega) (by omega)⟩
    exact key sub 0 (fun _ h => h) hg (by omega) (by omega)
/-- the program's answer -/
theorem wk_done (hu : UpIn lf) (t : Tm) (ht : chgT t ≤ 128) : (if (wkT lf t 0 8192 false).2.2 = true then (.mk 0 0 [], 2) else doneS (wkT lf t 0 8192 false).1) = doneS (subT lf t 0) := by
  obtain ⟨e1, e2⟩ := wk_ok hu t 0 8192 (by decide) (by decide) (by omega)
  by_cases h : okT lf t 0 = true ∧ (coT lf t 0 : Int) ≤ 8192
  · rw [e1 h]; simp
  · rw [e2 h]
    simp only [if_true]
    unfold doneS
    rw [if_neg]
    intro hs
    obtain ⟨h1, h2, h3⟩ := shaped_hg hs
    have := co_le hu t 0 (by decide) (by omega)
    exact h ⟨ok_of t 0 h1 h2 h3, by omega⟩
theorem gt_ok : ∀ (t : Tm) (b : Int), gtT lf t b = (subT lf t b, false) ∨ (gtT lf t b).2 = true ∧ ¬ (okT lf t b = true ∧ cndT (subT lf t b) ≤ 8192) := by
  refine Tm.ind ?_
  intro k n sub ih b
  simp only [gtT, subT, okT]
  cases hq : lf (.mk k n sub) b with
  | put x => exact .inl rfl
  | up a m =>
    simp only
    cases hs : shapedB (moveT a m 0) with
    | true => exact .inl rfl
    | false => exact .inr ⟨rfl, fun h => by cases h.1⟩
  | go =>
    simp only
    have key : ∀ (l : List Tm) (i : Nat), (∀ s ∈ l, s ∈ sub) → ((gtL lf k l i b).any (fun x => x.2) = false ∧ (gtL lf k l i b).map (fun x => x.1) = subL lf k l i b) ∨ ((gtL lf k l i b).any (fun x => x.2) = true ∧ ¬ (okL lf k l i b = true ∧ cndL (subL lf k l i b) ≤ 8192)) := by
      intro l
      induction l with
      | nil => intro i _; exact .inl ⟨rfl, rfl⟩
      | cons t ts iht =>
        intro i hs
        simp only [gtL, subL, okL, cndL, List.any_cons, List.map_cons, Bool.and_eq_true]
        rcases ih t (hs t (by simp)) (b + benB k i) with e | ⟨e1, e2⟩
        · rw [e]
          simp only [Bool.false_or]
          rcases iht (i + 1) (fun s h => hs s (by simp [h])) with ⟨e3, e4⟩ | ⟨e3, e4⟩
          · exact .inl ⟨e3, by rw [e4]⟩
          · exact .inr ⟨e3, fun h => e4 ⟨h.1.2, by omega⟩⟩
        · refine .inr ⟨by rw [e1]; rfl, fun h => e2 ⟨h.1.1, by omega⟩⟩
    unfold subsS
    rcases key sub 0 (fun _ h => h) with ⟨e1, e2⟩ | ⟨e1, e2⟩
    · rw [e1, e2, Bool.false_or]
      by_cases hc : 8192 < csizeT (.mk k n (subL lf k sub 0 b))
      · rw [decide_eq_true hc]
        refine .inr ⟨rfl, fun h => ?_⟩
        rw [size_nd] at hc
        have := h.2
        omega
      · rw [decide_eq_false hc]; exact .inl rfl
    · rw [e1, Bool.true_or]
      refine .inr ⟨rfl, fun h => e2 ⟨h.1, ?_⟩⟩
      have := h.2
      simp only [cndT] at this
      omega
theorem gt_done (t : Tm) : (if (gtT lf t 0).2 = true then (.mk 0 0 [], 2) else doneS (gtT lf t 0).1) = doneS (subT lf t 0) := by
  rcases gt_ok (lf := lf) t 0 with e | ⟨e1, e2⟩
  · rw [e]; simp
  · rw [e1]
    simp only [if_true]
    unfold doneS
    rw [if_neg]
    intro hs
    obtain ⟨h1, h2, h3⟩ := shaped_hg hs
    exact e2 ⟨ok_of t 0 h1 h2 h3, h3⟩
end
end Go.Proofs.Ytfnfbbmegdkhjaa

namespace Go.Proofs.Ytfnfbbmegdkhjaa
open Go.RowKit
def manyLf (l : List Tm) (t : Tm) (b : Int) : Lf :=
  if t.kind = 1 ∧ b ≤ t.num then (match l[(t.num - b).toNat]? with
    | some a => .up a b
    | none => .put (.mk 1 (t.num - l.length) [])) else .go
def namedLf (a : Tm) (n : Int) (t : Tm) (b : Int) : Lf := if t.kind = 8 ∧ t.num = n then .up a b else .go
def bindLf (n : Int) (t : Tm) (b : Int) : Lf :=
  if t.kind = 1 ∧ b ≤ t.num then .put (.mk 1 (t.num + 1) []) else if t.kind = 8 ∧ t.num = n then .put (.mk 1 b []) else .go
def manyR (t : Tm) (l : List Tm) : Tm × Int := if (shapedB t && l.all shapedB) = true then doneS (subT (manyLf l) t 0) else (.mk 0 0 [], 5)
def namedR (t a : Tm) (n : Int) : Tm × Int := if (shapedB t && shapedB a && fitsB n) = true then doneS (subT (namedLf a n) t 0) else (.mk 0 0 [], 5)
def bindR (t : Tm) (n : Int) : Tm × Int := if (shapedB t && fitsB n) = true then doneS (subT (bindLf n) t 0) else (.mk 0 0 [], 5)
theorem up_many {l : List Tm} (h : l.all shapedB = true) : UpIn (manyLf l) := by
  intro t b a m hb hb2 hq
  unfold manyLf at hq
  split at hq
  · split at hq
    · rename_i x hx
      cases hq
      refine ⟨List.all_eq_true.1 h _ (List.mem_of_getElem? hx), ?_⟩
      unfold fitsB
      rw [decide_eq_true hb, decide_eq_true (by omega)]; rfl
    · cases hq
  · cases hq
theorem up_named {a : Tm} {n : Int} (h : shapedB a = true) : UpIn (namedLf a n) := by
  intro t b x m hb hb2 hq
  unfold namedLf at hq
  split at hq
  · cases hq
    refine ⟨h, ?_⟩
    unfold fitsB
    rw [decide_eq_true hb, decide_eq_true (by omega)]; rfl
  · cases hq
theorem up_bind (n : Int) : UpIn (bindLf n) := by
  intro t b x m hb hb2 hq
  unfold bindLf at hq
  split at hq
  · cases hq
  · split at hq <;> cases hq
mutual
/-- are all loose variables below a number? -/
def lvT : Tm → Int → Bool
  | .mk k n sub, c => if k = 1 then decide (n < c) else lvL k sub 0 c
def lvL : Int → List Tm → Nat → Int → Bool
  | _, [], _, _ => true
  | k, t :: ts, i, c => lvT t (c + benB k i) && lvL k ts (i + 1) c
end
theorem lv_ls : ∀ (t : Tm) (b d : Int), goodB t = true → 0 ≤ d → (lsT t b ≤ d ↔ lvT t (b + d) = true) := by
  refine Tm.ind ?_
  intro k n sub ih b d hg hd
  by_cases h1 : k = 1
  · subst h1
    rw [ls_var]
    simp only [lvT, if_true, decide_eq_true_eq]
    omega
  · rw [ls_not h1]
    simp only [lvT]
    rw [if_neg h1]
    have hs := (good_parts hg).2
    have hbu := fun j hj => ben_und hg j hj
    have key : ∀ (l : List Tm) (i : Nat) (m : Int), (∀ s ∈ l, s ∈ sub) → i + l.length = sub.length → (lsL k l i b m ≤ d ↔ m ≤ d ∧ lvL k l i (b + d) = true) := by
      intro l
      induction l with
      | nil => intro i m _ _; simp [lsL, lvL]
      | cons t ts iht =>
        intro i m hm hl
        simp only [List.length_cons] at hl
        simp only [lsL, lvL]
        rw [iht (i + 1) _ (fun s h => hm s (by simp [h])) (by omega), Bool.and_eq_true]
        have e := ih t (hm t (by simp)) (b + undB k i) d (hs t (hm t (by simp))) hd
        rw [hbu i (by omega), show b + d + undB k (i : Int) = b + undB k i + d by omega, ← e]
        constructor
        · rintro ⟨h2, h3⟩; exact ⟨by omega, by omega, h3⟩
        · rintro ⟨h2, h3, h4⟩; exact ⟨by omega, h4⟩
    rw [key sub 0 0 (fun _ h => h) (by omega)]
    exact ⟨fun h => h.2, fun h => ⟨hd, h⟩⟩
/-- named variables, from a number on -/
def frs (base : Int) (i : Nat) : List Tm := (List.range i).map fun (j : Nat) => Tm.mk 8 (base + (j : Int)) []
theorem frs_len (base : Int) (i : Nat) : (frs base i).length = i := by unfold frs; simp
theorem frs_rev {base : Int} {i j : Nat} (h : j < i) : (frs base i).reverse[j]? = some (.mk 8 (base + ((i - 1 - j : Nat) : Int)) []) := by
  rw [List.getElem?_reverse (by rw [frs_len]; exact h), frs_len]
  unfold frs
  rw [List.getElem?_map, List.getElem?_range (by omega)]
  rfl
theorem move_free (x d m : Int) : moveT (.mk 8 x []) d m = .mk 8 x [] := by
  simp only [moveT, moveL]
  rw [if_neg (by decide)]
theorem sub_go {lf : Tm → Int → Lf} {k n : Int} {sub : List Tm} {b : Int} (h : lf (.mk k n sub) b = .go) : subT lf (.mk k n sub) b = .mk k n (subL lf k sub 0 b) := by
  simp only [subT, h]
theorem sub_put {lf : Tm → Int → Lf} {t x : Tm} {b : Int} (h : lf t b = .put x) : subT lf t b = x := by
  cases t; simp only [subT, h]
theorem sub_up {lf : Tm → Int → Lf} {t a : Tm} {b m : Int} (h : lf t b = .up a m) : subT lf t b = moveT a m 0 := by
  cases t; simp only [subT, h]
theorem many_go {l : List Tm} {t : Tm} {b : Int} (h : ¬ (t.kind = 1 ∧ b ≤ t.num)) : manyLf l t b = .go := by
  unfold manyLf; rw [if_neg h]
theorem many_up {l : List Tm} {t a : Tm} {b : Int} (h1 : t.kind = 1) (h2 : b ≤ t.num) (h : l[(t.num - b).toNat]? = some a) : manyLf l t b = .up a b := by
  unfold manyLf; rw [if_pos ⟨h1, h2⟩, h]
theorem bind_go {n : Int} {t : Tm} {b : Int} (h1 : ¬ (t.kind = 1 ∧ b ≤ t.num)) (h2 : ¬ (t.kind = 8 ∧ t.num = n)) : bindLf n t b = .go := by
  unfold bindLf; rw [if_neg h1, if_neg h2]
theorem named_go {a : Tm} {n : Int} {t : Tm} {b : Int} (h : ¬ (t.kind = 8 ∧ t.num = n)) : namedLf a n t b = .go := by
  unfold namedLf; rw [if_neg h]
theorem named_up {a : Tm} {n : Int} {t : Tm} {b : Int} (h : t.kind = 8 ∧ t.num = n) : namedLf a n t b = .up a b := by
  unfold namedLf; rw [if_pos h]
/-- one variable of many is bound again -/
theorem fill_bind (base : Int) (i : Nat) : ∀ (t : Tm) (b : Int), goodB t = true → lvT t (b + (i : Int) + 1) = true → sdT t (base + (i : Int)) = false →
    subT (bindLf (base + (i : Int))) (subT (manyLf (frs base (i + 1)).reverse) t b) b = subT (manyLf (frs base i).reverse) t (b + 1) := by
  refine Tm.ind ?_
  intro k n sub ih b hg hl hs
  by_cases h1 : k = 1
  · subst h1
    obtain rfl := good_1 hg
    simp only [lvT, if_true, decide_eq_true_eq] at hl
    by_cases hb : b ≤ n
    · have e1 : manyLf (frs base (i + 1)).reverse (.mk 1 n []) b = .up (.mk 8 (base + ((i + 1 - 1 - (n - b).toNat : Nat) : Int)) []) b := many_up rfl hb (frs_rev (by simp only [Jv]; omega))
      rw [sub_up e1, move_free]
      by_cases h0 : n = b
      · subst h0
        rw [sub_put (x := .mk 1 n []) (by unfold bindLf; simp), sub_go (many_go (by simp; omega)), subL]
      · rw [sub_go (by unfold bindLf; simp; omega), subL]
        have e2 : manyLf (frs base i).reverse (.mk 1 n []) (b + 1) = .up (.mk 8 (base + ((i - 1 - (n - (b + 1)).toNat : Nat) : Int)) []) (b + 1) := many_up rfl (by simp only [Jv]; omega) (frs_rev (by simp only [Jv]; omega))
        rw [sub_up e2, move_free]
        congr 2
        omega
    · rw [sub_go (many_go (by simp [hb])), subL, sub_go (by unfold bindLf; simp [hb]), subL, sub_go (many_go (by simp; omega)), subL]
  · have hk : ¬ (k = 8 ∧ n = base + (i : Int)) := by
      rintro ⟨rfl, rfl⟩
      simp [sdT] at hs
    rw [sub_go (many_go (by simp [h1])), sub_go (bind_go (by simp [h1]) hk), sub_go (many_go (by simp [h1]))]
    congr 1
    have hgs := (good_parts hg).2
    simp only [lvT] at hl
    rw [if_neg h1] at hl
    have hs2 : sdL sub (base + (i : Int)) = false := by
      by_cases h8 : k = 8
      · subst h8
        have : sub = [] := List.length_eq_zero_iff.1 (by have := (head_num (good_parts hg).1).2.2.2.2; simp [subsOf] at this; simpa using this)
        rw [this]; rfl
      · simp only [sdT] at hs
        rwa [if_neg (by simpa using h8)] at hs
    clear hs hg
    have key : ∀ (l : List Tm) (j : Nat), (∀ s ∈ l, s ∈ sub) → lvL k l j (b + (i : Int) + 1) = true → sdL l (base + (i : Int)) = false →
        subL (bindLf (base + (i : Int))) k (subL (manyLf (frs base (i + 1)).reverse) k l j b) j b = subL (manyLf (frs base i).reverse) k l j (b + 1) := by
      intro l
      induction l with
      | nil => intro j _ _ _; rfl
      | cons t ts iht =>
        intro j hm hv hd
        simp only [lvL, sdL, Bool.and_eq_true, Bool.or_eq_false_iff] at hv hd
        simp only [subL]
        rw [ih t (hm t (by simp)) (b + benB k j) (hgs t (hm t (by simp))) (by rw [show b + benB k (j : Int) + (i : Int) + 1 = b + (i : Int) + 1 + benB k j by omega]; exact hv.1) hd.1,
          iht (j + 1) (fun s h => hm s (by simp [h])) hv.2 hd.2, show b + benB k (j : Int) + 1 = b + 1 + benB k j by omega]
    exact key sub 0 (fun _ h => h) hl hs2
/-- nothing is put into what has no loose variables -/
theorem many_none (l : List Tm) : ∀ (t : Tm) (b : Int), goodB t = true → lvT t b = true → subT (manyLf l) t b = t := by
  refine Tm.ind ?_
  intro k n sub ih b hg hl
  by_cases h1 : k = 1
  · subst h1
    obtain rfl := good_1 hg
    simp only [lvT, if_true, decide_eq_true_eq] at hl
    rw [sub_go (many_go (by simp; omega)), subL]
  · rw [sub_go (many_go (by simp [h1]))]
    congr 1
    have hgs := (good_parts hg).2
    simp only [lvT] at hl
    rw [if_neg h1] at hl
    have key : ∀ (q : List Tm) (j : Nat), (∀ s ∈ q, s ∈ sub) → lvL k q j b = true → subL (manyLf l) k q j b = q := by
      intro q
      induction q with
      | nil => intro j _ _; rfl
      | cons t ts iht =>
        intro j hm hv
        simp only [lvL, Bool.and_eq_true] at hv
        simp only [subL]
        rw [ih t (hm t (by simp)) _ (hgs t (hm t (by simp))) hv.1, iht (j + 1) (fun s h => hm s (by simp [h])) hv.2]
    exact key sub 0 (fun _ h => h) hl
theorem sd_move : ∀ (t : Tm) (d m x : Int), goodB t = true → sdT (moveT t d m) x = sdT t x := by
  refine Tm.ind ?_
  intro k n sub ih d m x hg
  simp only [moveT]
  by_cases h1 : k = 1
  · subst h1
    obtain rfl := good_1 hg
    simp only [if_true]
    split <;> simp [sdT, sdL]
  · rw [if_neg h1]
    simp only [sdT]
    have hgs := (good_parts hg).2
    have key : ∀ (l : List Tm) (j : Nat), (∀ s ∈ l, s ∈ sub) → sdL (moveL k l j d m) x = sdL l x := by
      intro l
      induction l with
      | nil => intro j _; rfl
      | cons t ts iht =>
        intro j hm
        simp only [moveL, sdL]
        rw [ih t (hm t (by simp)) _ _ _ (hgs t (hm t (by simp))), iht (j + 1) fun s h => hm s (by simp [h])]
    rw [key sub 0 fun _ h => h]
/-- a named variable that was put away stands nowhere -/
theorem sd_named {a : Tm} {n : Int} (ha : goodB a = true) (hn : sdT a n = false) : ∀ (t : Tm) (b : Int), goodB t = true → sdT (subT (namedLf a n) t b) n = false := by
  refine Tm.ind ?_
  intro k m sub ih b hg
  by_cases h8 : k = 8 ∧ m = n
  · rw [sub_up (named_up (a := a) (n := n) (t := .mk k m sub) (b := b) h8), sd_move _ _ _ _ ha, hn]
  · rw [sub_go (named_go (a := a) (n := n) (t := .mk k m sub) (b := b) h8)]
    simp only [sdT]
    have hgs := (good_parts hg).2
    split
    · rename_i h
      have : k = 8 := by simpa using h
      simpa using fun e => h8 ⟨this, e⟩
    · have key : ∀ (l : List Tm) (j : Nat), (∀ s ∈ l, s ∈ sub) → sdL (subL (namedLf a n) k l j b) n = false := by
        intro l
        induction l with
        | nil => intro j _; rfl
        | cons t ts iht =>
          intro j hm
          simp only [subL, sdL]
          rw [ih t (hm t (by simp)) _ (hgs t (hm t (by simp))), iht (j + 1) fun s h => hm s (by simp [h])]; rfl
      exact key sub 0 fun _ h => h
end Go.Proofs.Ytfnfbbmegdkhjaa

namespace Go.Proofs.Ytfnfbbmegdkhjaa
open Go.RowKit
/-- a context's types around a term, from the last one on -/
def closeG (kd : Int) : List Va → Tm → Option Tm
  | [], t => some t
  | v :: r, t => if (bindR t v.n).2 = 0 then (if shapedB (.mk kd 0 [v.ty, (bindR t v.n).1]) = true then closeG kd r (.mk kd 0 [v.ty, (bindR t v.n).1]) else none) else none
def aroundR (kd : Int) (c : List Va) (t : Tm) : Tm × Int :=
  if (rightV c && shapedB t) = false then (.mk 0 0 [], 5) else if 24 < c.length then (.mk 0 0 [], 2) else match closeG kd c.reverse t with
    | some x => (x, 0)
    | none => (.mk 0 0 [], 2)
theorem done_code (x : Tm) : (doneS x).2 = 0 ∨ (doneS x).2 = 2 := by unfold doneS; split <;> simp
theorem done_ok {x : Tm} (h : (doneS x).2 = 0) : shapedB x = true ∧ (doneS x).1 = x := by
  unfold doneS at h ⊢
  split
  · rename_i hs; exact ⟨hs, rfl⟩
  · rename_i hs; rw [if_neg hs] at h; cases h
theorem bindR_in {t : Tm} {n : Int} (h1 : shapedB t = true) (h2 : fitsB n = true) : bindR t n = doneS (subT (bindLf n) t 0) := by
  unfold bindR; rw [h1, h2]; rfl
mutual
/-- functions told as their types -/
def erT : Tm → Tm
  | .mk k n sub => .mk (if k = 4 then 3 else k) n (erL sub)
def erL : List Tm → List Tm
  | [] => []
  | t :: ts => erT t :: erL ts
end
theorem erL_len (l : List Tm) : (erL l).length = l.length := by
  induction l with
  | nil => rfl
  | cons t ts ih => simp only [erL, List.length_cons, ih]
theorem er_nd : ∀ (t : Tm), cndT (erT t) = cndT t ∧ chgT (erT t) = chgT t ∧ goodB (erT t) = goodB t := by
  refine Tm.ind ?_
  intro k n sub ih
  have key : ∀ (l : List Tm), (∀ s ∈ l, s ∈ sub) → cndL (erL l) = cndL l ∧ chgL (erL l) = chgL l ∧ cgoodL (erL l) = cgoodL l := by
    intro l
    induction l with
    | nil => intro _; exact ⟨rfl, rfl, rfl⟩
    | cons t ts iht =>
      intro hm
      obtain ⟨e1, e2, e3⟩ := ih t (hm t (by simp))
      obtain ⟨e4, e5, e6⟩ := iht fun s h => hm s (by simp [h])
      simp only [erL, cndL, chgL, cgoodL, e1, e2, e3, e4, e5, e6]
      exact ⟨trivial, trivial, trivial⟩
  obtain ⟨e1, e2, e3⟩ := key sub fun _ h => h
  have hh : cheadB (.mk (if k = 4 then 3 else k) n (erL sub)) = cheadB (.mk k n sub) := by
    have hf : fst0 (erL sub) = 2 ↔ fst0 sub = 2 := by
      cases sub with
      | nil => exact Iff.rfl
      | cons t ts =>
        obtain ⟨k', n', s'⟩ := t
        simp only [erL, erT, fst0, Tm.kind]
        split <;> omega
    unfold cheadB
    rw [decide_eq_decide]
    simp only [Tm.kind, Tm.num, Tm.sub, erL_len]
    by_cases h4 : k = 4
    · subst h4
      simp [subsOf, mostOf]
    · simp only [if_neg h4, hf]
  simp only [erT, cndT, chgT, goodB, e1, e2, e3, hh]
  exact ⟨trivial, trivial, trivial⟩
theorem er_shaped (t : Tm) : shapedB (erT t) = shapedB t := by
  obtain ⟨e1, e2, e3⟩ := er_nd t
  rw [Bool.eq_iff_iff]
  constructor
  · intro h
    obtain ⟨h1, h2, h3⟩ := shaped_hg h
    exact shaped_mk (e3 ▸ h1) (e2 ▸ h2) (e1 ▸ h3)
  · intro h
    obtain ⟨h1, h2, h3⟩ := shaped_hg h
    exact shaped_mk (by rw [e3]; exact h1) (by rw [e2]; exact h2) (by rw [e1]; exact h3)
theorem bindLf_congr {x : Int} {t u : Tm} {b : Int} (h0 : t.num = u.num) (h1 : t.kind = 1 ↔ u.kind = 1) (h8 : t.kind = 8 ↔ u.kind = 8) : bindLf x t b = bindLf x u b := by
  unfold bindLf
  simp only [h0, h1, h8]
theorem er_bind (x : Int) : ∀ (t : Tm) (b : Int), erT (subT (bindLf x) t b) = subT (bindLf x) (erT t) b := by
  refine Tm.ind ?_
  intro k n sub ih b
  have hlf : bindLf x (.mk (if k = 4 then 3 else k) n (erL sub)) b = bindLf x (.mk k n sub) b :=
    bindLf_congr rfl (by simp only [Ju]; split <;> omega) (by simp only [Ju]; split <;> omega)
  have hb : ∀ i, benB (if k = 4 then 3 else k) i = benB k i := by
    intro i
    unfold benB
    by_cases h4 : k = 4
    · subst h4; simp
    · simp only [if_neg h4]
  have key : ∀ (l : List Tm) (j : Nat), (∀ s ∈ l, s ∈ sub) → erL (subL (bindLf x) k l j b) = subL (bindLf x) (if k = 4 then 3 else k) (erL l) j b := by
    intro l
    induction l with
    | nil => intro j _; rfl
    | cons t ts iht =>
      intro j hm
      simp only [subL, erL, hb]
      rw [ih t (hm t (by simp)), iht (j + 1) fun s h => hm s (by simp [h])]
  have hq : (∃ y, bindLf x (.mk k n sub) b = .put (.mk 1 y [])) ∨ bindLf x (.mk k n sub) b = .go := by
    unfold bindLf
    split
    · exact .inl ⟨_, rfl⟩
    · split
      · exact .inl ⟨_, rfl⟩
      · exact .inr rfl
  rcases hq with ⟨y, hq⟩ | hq
  · rw [sub_put hq]
    simp only [erT]
    rw [sub_put (hlf.trans hq)]
    simp [erL]
  · rw [sub_go hq]
    simp only [erT]
    rw [sub_go (hlf.trans hq), key sub 0 fun _ h => h]
theorem er_bindR {t u : Tm} (h : erT t = erT u) (n : Int) : (bindR t n).2 = (bindR u n).2 ∧ erT (bindR t n).1 = erT (bindR u n).1 := by
  have hs : shapedB t = shapedB u := by rw [← er_shaped t, h, er_shaped]
  have hb : erT (subT (bindLf n) t 0) = erT (subT (bindLf n) u 0) := by rw [er_bind, er_bind, h]
  have hs2 : shapedB (subT (bindLf n) t 0) = shapedB (subT (bindLf n) u 0) := by rw [← er_shaped, hb, er_shaped]
  unfold bindR doneS
  rw [hs, hs2]
  cases shapedB u && fitsB n with
  | false => exact ⟨rfl, rfl⟩
  | true =>
    simp only [if_true]
    cases shapedB (subT (bindLf n) u 0) with
    | false => exact ⟨rfl, rfl⟩
    | true => exact ⟨rfl, hb⟩
theorem er_close : ∀ (l : List Va) (t u : Tm), erT t = erT u → (closeG 3 l t).isSome = (closeG 4 l u).isSome := by
  intro l
  induction l with
  | nil => intro t u _; rfl
  | cons v r ih =>
    intro t u h
    obtain ⟨e1, e2⟩ := er_bindR h v.n
    rw [closeG, closeG, e1]
    have e3 : erT (.mk 3 0 [v.ty, (bindR t v.n).1]) = erT (.mk 4 0 [v.ty, (bindR u v.n).1]) := by
      simp only [erT, erL, e2]
      simp
    have e4 : shapedB (.mk 3 0 [v.ty, (bindR t v.n).1]) = shapedB (.mk 4 0 [v.ty, (bindR u v.n).1]) := by rw [← er_shaped, e3, er_shaped]
    split
    · rw [e4]
      split
      · exact ih _ _ e3
      · rfl
    · rfl
theorem around_code (c : List Va) (t : Tm) : (aroundR 3 c t).2 = (aroundR 4 c t).2 ∧ ((aroundR 3 c t).2 ≠ 0 → (aroundR 3 c t).1.kind = 0 ∧ (aroundR 4 c t).1.kind = 0) := by
  unfold aroundR
  split
  · exact ⟨rfl, fun _ => ⟨rfl, rfl⟩⟩
  · split
    · exact ⟨rfl, fun _ => ⟨rfl, rfl⟩⟩
    · have := er_close c.reverse t t rfl
      cases h3 : closeG 3 c.reverse t <;> cases h4 : closeG 4 c.reverse t <;> rw [h3, h4] at this <;> simp at this ⊢
/-- types around a term -/
def pisT (l : List Tm) (t : Tm) : Tm := l.foldr (fun a x => .mk 3 0 [a, x]) t
theorem pisT_cons (a : Tm) (l : List Tm) (t : Tm) : pisT (a :: l) t = .mk 3 0 [a, pisT l t] := rfl
theorem good_two {k : Int} (hk : k = 3 ∨ k = 4 ∨ k = 5) {a b : Tm} (ha : goodB a = true) (hb : goodB b = true) : goodB (.mk k 0 [a, b]) = true := by
  simp only [goodB, cgoodL, ha, hb, Bool.and_true]
  unfold cheadB
  refine decide_eq_true ?_
  simp only [Ju, Jv, Jw, List.length_cons, List.length_nil]
  rcases hk with rfl | rfl | rfl <;> simp [subsOf, mostOf]
theorem pis_good {l : List Tm} {t : Tm} (hl : ∀ a ∈ l, goodB a = true) (ht : goodB t = true) : goodB (pisT l t) = true := by
  induction l with
  | nil => exact ht
  | cons a l ih => rw [pisT_cons]; exact good_two (.inl rfl) (hl a (by simp)) (ih fun x h => hl x (by simp [h]))
/-- each type's loose variables are those ahead -/
def lvs : List Tm → Int → Prop
  | [], _ => True
  | a :: l, i => lvT a i = true ∧ lvs l (i + 1)
theorem pis_lv {t : Tm} : ∀ (l : List Tm) (i : Int), lvs l i → lvT t (i + l.length) = true → lvT (pisT l t) i = true := by
  intro l
  induction l with
  | nil => intro i _ h; simpa [pisT] using h
  | cons a l ih =>
    intro i hl ht
    rw [pisT_cons]
    simp only [lvT, lvL]
    rw [if_neg (by decide)]
    have e0 : benB 3 ((0 : Nat) : Int) = 0 := by decide
    have e1 : benB 3 ((0 + 1 : Nat) : Int) = 1 := by decide
    rw [e0, e1, Int.add_zero, hl.1, ih (i + 1) hl.2 (by rw [List.length_cons] at ht; rw [show i + 1 + (l.length : Int) = i + ((l.length + 1 : Nat) : Int) by omega]; exact ht)]
    rfl
theorem pis_sd {l : List Tm} {t : Tm} {x : Int} (hl : ∀ a ∈ l, sdT a x = false) (ht : sdT t x = false) : sdT (pisT l t) x = false := by
  induction l with
  | nil => exact ht
  | cons a l ih =>
    rw [pisT_cons]
    simp only [sdT, sdL]
    rw [if_neg (by decide), hl a (by simp), ih fun y h => hl y (by simp [h])]; rfl
/-- a telescope's variables, opened -/
def opnV (base : Int) (l : List Tm) (j : Nat) : Va := ⟨base + (j : Int), subT (manyLf (frs base j).reverse) ((l[j]?).getD (.mk 0 0 [])) 0⟩
theorem close_back {base : Int} {l : List Tm} {t : Tm} (hg : ∀ a ∈ l, goodB a = true) (ht : goodB t = true) (hl : lvs l 0) (htl : lvT t l.length = true) (hs : ∀ a ∈ l, ∀ j : Nat, j < l.length → sdT a (base + (j : Int)) = false)
    (hts : ∀ j : Nat, j < l.length → sdT t (base + (j : Int)) = false) (hf : ∀ j : Nat, j < l.length → fitsB (base + (j : Int)) = true) : ∀ (j : Nat), j ≤ l.length → ∀ a, shapedB (subT (manyLf (frs base j).reverse) (pisT (l.drop j) t) 0) = true →
    closeG 3 ((List.range j).map (opnV base l)).reverse (subT (manyLf (frs base j).reverse) (pisT (l.drop j) t) 0) = some a → a = pisT l t := by
  have hlv : ∀ (q : List Tm) (i : Nat) (c : Int), lvs q c → lvs (q.drop i) (c + i) := by
    intro q
    induction q with
    | nil => intro i c _; simp [lvs]
    | cons a q ih =>
      intro i c h
      cases i with
      | zero => simpa using h
      | succ i =>
        rw [List.drop_succ_cons, show c + ((i + 1 : Nat) : Int) = c + 1 + (i : Int) by omega]
        exact ih i (c + 1) h.2
  intro j
  induction j with
  | zero =>
    intro _ a _ h
    simp only [List.range_zero, List.map_nil, List.reverse_nil, closeG, List.drop_zero, Option.some.injEq] at h
    rw [← h]
    exact many_none _ _ _ (pis_good hg ht) (pis_lv l 0 hl (by simpa using htl))
  | succ j ih =>
    intro hj a hsh h
    have hjl : j < l.length := hj
    rw [List.range_succ, List.map_append, List.reverse_append] at h
    simp only [List.map_cons, List.map_nil, List.reverse_cons, List.reverse_nil, List.nil_append, List.singleton_append, closeG] at h
    have hvn : (opnV base l j).n = base + (j : Int) := rfl
    rw [hvn, bindR_in hsh (hf j hjl)] at h
    have hd : ∀ y ∈ l.drop (j + 1), y ∈ l := fun y hy => List.mem_of_mem_drop hy
    have hfb := fill_bind base j (pisT (l.drop (j + 1)) t) 0 (pis_good (fun y hy => hg y (hd y hy)) ht)
      (by
        have := pis_lv (t := t) (l.drop (j + 1)) (0 + ((j + 1 : Nat) : Int)) (hlv l (j + 1) 0 hl) (by rw [List.length_drop, show (0 : Int) + ((j + 1 : Nat) : Int) + ((l.length - (j + 1) : Nat) : Int) = (l.length : Int) by omega]; exact htl)
        rw [show (0 : Int) + (j : Int) + 1 = 0 + ((j + 1 : Nat) : Int) by omega]; exact this)
      (pis_sd (fun y hy => hs y (hd y hy) j hjl) (hts j hjl))
    rw [hfb] at h
    split at h
    · rename_i h0
      obtain ⟨h1, h2⟩ := done_ok h0
      rw [h2] at h
      have he : Tm.mk 3 0 [(opnV base l j).ty, subT (manyLf (frs base j).reverse) (pisT (l.drop (j + 1)) t) (0 + 1)] = subT (manyLf (frs base j).reverse) (pisT (l.drop j) t) 0 := by
        rw [List.drop_eq_getElem_cons hjl, pisT_cons, sub_go (many_go (by simp)), subL, subL, subL]
        have e0 : benB 3 ((0 : Nat) : Int) = 0 := by decide
        have e1 : benB 3 ((0 + 1 : Nat) : Int) = 1 := by decide
        rw [e0, e1]
        unfold opnV
        rw [List.getElem?_eq_getElem hjl]
        rfl
      rw [he] at h
      split at h
      · rename_i h3
        exact ih (by omega) a h3 h
      · cases h
    · cases h
end Go.Proofs.Ytfnfbbmegdkhjaa

namespace Go.Proofs.Ytfnfbbmegdkhjaa
open Go.RowKit Go.WideMaps
set_option maxRecDepth 100000
theorem lit_wf {n : Int} (h0 : -9223372036854775808 ≤ n) (h1 : n ≤ 9223372036854775807) : (Lit.int .i64 n).wf = true := by
  simp [Lit.wf, IntKind.min, IntKind.max, IntKind.signed, IntKind.bits]; omega
theorem int_key {n : Int} (h0 : -9223372036854775808 ≤ n) (h1 : n ≤ 9223372036854775807) : keyOf Try.prog 3 (.int .i64 n) = some (.int .i64 n) := Maps.keyOf_int_mk Try.underlying3 (lit_wf h0 h1)
abbrev MapI (N : Nat) (D : DataW Unit) : Obj → Prop := MapO Try.prog 3 3 N D
set_option maxHeartbeats 4000000 in
theorem btell_p (i N : Nat) (l : List Int) (k : Int) (hk0 : -9223372036854775808 ≤ k) (hk1 : k ≤ 9223372036854775807) (hN : N ≤ 1000000000) (hl : l.length ≤ 1000000000) :
    PCalls Try.prog 57 [.mp i, .d (.v (.int .i64 k))] [.obj i (MapO Try.prog 3 3 N (bagD l))] fun p s => p = .tup [] ∧ s = [.obj i (MapO Try.prog 3 3 (N + 1) (bagD (k :: l)))] := by
  have hcl := cntZ_le l k
  have hw := wr64 (n := (cntZ l k : Int) + 1) (by omega) (by omega)
  have hwf := lit_wf (n := (cntZ l k : Int) + 1) (by omega) (by omega)
  have hkey := int_key hk0 hk1
  have hNm : N < maxLen := by unfold maxLen; omega
  clear hcl hk0 hk1 hN hl
  refine PCalls.enter Try.func57 rfl Try.ntmps57 (by simp) ?_
  simp only [argsF]
  refine go_ ?_
  refine POps_lookup (D := bagD l) (cntZ l k : Int) Try.underlying3 Try.underlying3 (fun w => Try.zeroValue3 w) hkey (bagD_at _ _) ?_
  refine go_ ?_
  refine POps_mapUpdate (N := N) (v := (cntZ l k : Int) + 1) (D := bagD l) Try.underlying3 Try.underlying3 hNm hkey hwf ?_
  refine go_ ?_
  refine Jl (st' := [.obj i (MapO Try.prog 3 3 (N + 1) (bagD (k :: l)))]) (by simp) (by simp only [Try.results57]; rfl) (by simp [resP, St.box?, PF.get, Jm, TyK.agg, *]; rfl) (by repeat (first | exact List.Sublist.refl _ | exact List.nil_sublist _ | refine List.Sublist.cons_cons _ ?_ | refine List.Sublist.cons _ ?_)) ?_
  exact ⟨rfl, rfl⟩
set_option maxHeartbeats 4000000 in
theorem btold_p (i N : Nat) (l : List Int) (k : Int) (hk0 : -9223372036854775808 ≤ k) (hk1 : k ≤ 9223372036854775807) :
    PCalls Try.prog 59 [.mp i, .d (.v (.int .i64 k))] [.obj i (MapO Try.prog 3 3 N (bagD l))] fun p s => p = .d (.v (.bool (decide (k ∈ l)))) ∧ s = [.obj i (MapO Try.prog 3 3 N (bagD l))] := by
  have hkey := int_key hk0 hk1
  clear hk0 hk1
  have HR : decide (k ∈ l) = decide (0 < cntZ l k) := by
    rw [decide_eq_decide, ← cntZ_pos]
  rw [HR]
  clear HR
  have HC := Lib.hid (bagD_at k l)
  generalize cntZ l k = c at *
  refine PCalls.enter Try.func59 rfl Try.ntmps59 (by simp) ?_
  simp only [argsF]
  refine go_ ?_
  refine POps_lookup (D := bagD l) (c : Int) Try.underlying3 Try.underlying3 (fun w => Try.zeroValue3 w) hkey HC.out ?_
  refine go_ ?_
  refine Jl (st' := [.obj i (MapO Try.prog 3 3 N (bagD l))]) (by simp) (by simp only [Try.results59]; rfl) (by simp [resP, St.box?, PF.get, Jm, TyK.agg, *]; rfl) (by repeat (first | exact List.Sublist.refl _ | exact List.nil_sublist _ | refine List.Sublist.cons_cons _ ?_ | refine List.Sublist.cons _ ?_)) ?_
  exact ⟨rfl, rfl⟩
theorem fitV_iff (v : Va) : fitV v = (fitsB v.n && shapedB v.ty) := rfl
theorem fits_bd {n : Int} (h : fitsB n = true) : 0 ≤ n ∧ n ≤ 1048576 := by
  unfold fitsB at h
  simpa using h
theorem MapO.le {P : Program} {k e : TypeId} {N M : Nat} {D : DataW Unit} (h : N ≤ M) {o : Obj} (ho : MapO P k e N D o) : MapO P k e M D o := fun w b hb => by
  obtain ⟨es, clock, h1, F, h2, h3⟩ := ho w b hb
  exact ⟨es, clock, h1, F, Nat.le_trans h2 h, h3⟩
/-- the numbers told, the latest first -/
def nsR (c : List Va) (j : Nat) : List Int := ((c.take j).map Va.n).reverse
theorem nsR_succ {c : List Va} {j : Nat} (h : j < c.length) : nsR c (j + 1) = c[j].n :: nsR c j := by
  unfold nsR
  rw [List.take_succ_eq_append_getElem h, List.map_append, List.reverse_append]; rfl
theorem nsR_all (c : List Va) : nsR c c.length = (c.map Va.n).reverse := by unfold nsR; rw [List.take_length]
theorem nsR_len {c : List Va} {j : Nat} (h : j ≤ c.length) : (nsR c j).length = j := by unfold nsR; rw [List.length_reverse, List.length_map, List.length_take]; omega
set_option maxHeartbeats 16000000 in
theorem fplaces_p (c : List Va) (hl : c.length ≤ 100000) : PCalls Try.prog 65 [.d (.sl (c.map encD))] [] fun p s =>
    (shapedV c = true ∧ ∃ i N, p = .tup [.mp i, .d (.v (.bool true))] ∧ s = [.obj i (MapO Try.prog 3 3 N (atD (c.map Va.n).reverse))]) ∨ (shapedV c = false ∧ p = .tup [.d (.v (.map none)), .d (.v (.bool false))] ∧ s = []) := by
  have HS : Hid (shapedV c = ((c.drop 0).all fitV && decide ((c.length : Int) ≤ 256))) := rfl
  generalize hR : shapedV c = R at *
  clear hR
  refine PCalls.enter Try.func65 rfl Try.ntmps65 (by simp) ?_
  simp only [argsF]
  refine go_ ?_
  refine POps_makeMap 3 3 fun i0 hi0 => ?_
  try simp only [Rh, Rg, Rf, Ja] at hi0
  refine go_ ?_
  refine PW_loop (ι := Nat × Nat) (fun y => y.1 ≤ c.length ∧ y.2 ≤ y.1 ∧ (0 < y.1 → (c.length : Int) ≤ 256) ∧ Hid (R = ((c.drop y.1).all fitV && decide ((c.length : Int) ≤ 256)))) (fun y => [(0, .d (.sl (c.map encD))), (4, .mp i0), (10, .d (.sl (c.map encD))), (11, .d (.v (.int .i64 c.length))), (12, .d (.v (.int .i64 (y.1 : Int))))]) (fun y => [.obj i0 (MapO Try.prog 3 3 y.2 (atD (nsR c y.1)))]) (fun y => c.length - y.1) (0, 0) ⟨Nat.zero_le _, Nat.le_refl _, fun h => absurd h (by decide), HS.out⟩ ?_ ?_ ?_
  · repeat (first | exact Js _ | refine Jr (by simp [PF.get]; rfl) (by first | rfl | (simp [*]; done) | fail) ?_)
  · repeat (first | exact List.Sublist.refl _ | exact List.nil_sublist _ | refine List.Sublist.cons_cons _ ?_ | refine List.Sublist.cons _ ?_)
  · rintro ⟨j, N⟩ ⟨hj, hNj, h256, hR⟩
    simp only at hj hNj h256 hR ⊢
    clear HS
    by_cases hlt : j < c.length
    · have hx := get_enc hlt
      have hc : (j : Int) < c.length := by omega
      have hn : (0 : Int) ≤ j := by omega
      have hin := wr64 (n := (j : Int) + 1) (by omega) (by omega)
      have hjw := Lib.hid (lit_wf (n := (j : Int)) (by omega) (by omega))
      have hNm := Lib.hid (show N < maxLen by unfold maxLen; omega)
      have HN := Lib.hid hNj
      have HA := Lib.hid (nsR_succ hlt)
      have HL := Lib.hid (nsR_len hj)
      have hR2 : Hid (R = (fitV c[j] && (c.drop (j + 1)).all fitV && decide ((c.length : Int) ≤ 256))) := by
        show _ = _
        rw [show R = _ from hR.out, List.drop_eq_getElem_cons hlt]; rfl
      have hc1 := Lib.hid (ffits_p c[j].n)
      have hc2 := Lib.hid (tshaped_p c[j].ty)
      simp only [aggD, Jk, List.map_cons, List.map_nil] at hc2
      rw [fitV_iff] at hR2
      clear hR hNj h256
      rcases Bool.eq_false_or_eq_true (fitsB c[j].n) with hf | hf
      rotate_left
      · rw [hf] at hc1 hR2
        have hF : Hid (R = false) := by show _ = _; rw [show R = _ from hR2.out]; rfl
        clear hR2 hf
        refine go_ ?_
        refine Jd ?_
        intro i2 hi2
        try simp only [Rh, Rg, Rf, Ja] at hi2
        refine go_ ?_
        refine Rc ?_
        refine go_ ?_
        refine Jb (hc1.out) ?_
        refine go_ ?_
        refine Jl (by simp) (by simp only [Try.results65]; rfl) (by simp [resP, St.box?, PF.get, Jm, TyK.agg, *]; rfl) (List.nil_sublist _) ?_
        exact .inr ⟨hF.out, rfl, rfl⟩
      rcases Bool.eq_false_or_eq_true (shapedB c[j].ty) with hs | hs
      rotate_left
      · rw [hf] at hc1 hR2
        rw [hs] at hc2 hR2
        have hF : Hid (R = false) := by show _ = _; rw [show R = _ from hR2.out]; rfl
        clear hR2 hf hs
        refine go_ ?_
        refine Jd ?_
        intro i2 hi2
        try simp only [Rh, Rg, Rf, Ja] at hi2
        refine go_ ?_
        refine Rc ?_
        refine go_ ?_
        refine Jb (hc1.out) ?_
        refine go_ ?_
        refine Jq (hc2.out) ?_
        refine go_ ?_
        refine Jl (by simp) (by simp only [Try.results65]; rfl) (by simp [resP, St.box?, PF.get, Jm, TyK.agg, *]; rfl) (List.nil_sublist _) ?_
        exact .inr ⟨hF.out, rfl, rfl⟩
      have hkey := Lib.hid (int_key (n := c[j].n) (by have := fits_bd hf; omega) (by have := fits_bd hf; omega))
      rw [hf] at hc1 hR2
      rw [hs] at hc2 hR2
      clear hf hs
      by_cases h6 : (256 : Int) < c.length
      · have hF : Hid (R = false) := by show _ = _; rw [show R = _ from hR2.out, decide_eq_false (by omega), Bool.and_false]
        clear hR2
        refine go_ ?_
        refine Jd ?_
        intro i2 hi2
        try simp only [Rh, Rg, Rf, Ja] at hi2
        refine go_ ?_
        refine Rc ?_
        refine go_ ?_
        refine Jb (hc1.out) ?_
        refine go_ ?_
        refine Jq (hc2.out) ?_
        refine go_ ?_
        refine Jl (by simp) (by simp only [Try.results65]; rfl) (by simp [resP, St.box?, PF.get, Jm, TyK.agg, *]; rfl) (List.nil_sublist _) ?_
        exact .inr ⟨hF.out, rfl, rfl⟩
      · have hF : Hid (R = ((c.drop (j + 1)).all fitV && decide ((c.length : Int) ≤ 256))) := by show _ = _; rw [show R = _ from hR2.out]; rfl
        clear hR2
        refine go_ ?_
        refine Jd ?_
        intro i2 hi2
        try simp only [Rh, Rg, Rf, Ja] at hi2
        refine go_ ?_
        refine Rc ?_
        refine go_ ?_
        refine Jb (hc1.out) ?_
        refine go_ ?_
        refine Jq (hc2.out) ?_
        refine go_ ?_
        refine POps_lookup2 (D := atD (nsR c j)) (idV (idxR (nsR c j) c[j].n)) (idxR (nsR c j) c[j].n).isSome Try.underlying3 Try.underlying3 (fun w => Try.zeroValue3 w) hkey.out (atD_at _ _) (atD_has _ _) ?_
        cases hq : idxR (nsR c j) c[j].n with
        | some q =>
          have HD : atD (nsR c (j + 1)) = atD (nsR c j) := by rw [HA.out, atD, hq]
          simp only [Option.isSome_some, idV]
          clear hq
          refine go_ ?_
          refine ⟨(j + 1, N), ⟨hlt, by have := HN.out; simp only; omega, fun _ => by omega, hF⟩, by simp only; omega, by repeat (first | exact Js _ | refine Jr (by simp [PF.get]; rfl) (by first | rfl | (simp [*]; done) | fail) ?_), ?_⟩
          simp only [HD]
          repeat (first | exact List.Sublist.refl _ | exact List.nil_sublist _ | refine List.Sublist.cons_cons _ ?_ | refine List.Sublist.cons _ ?_)
        | none =>
          have HD : atD (nsR c (j + 1)) = (atD (nsR c j)).put (.int .i64 c[j].n) (.lit (.int .i64 (j : Int))) := by rw [HA.out, atD, hq, HL.out]
          simp only [Option.isSome_none, idV]
          clear hq
          refine go_ ?_
          refine POps_mapUpdate (N := N) (v := (j : Int)) (D := atD (nsR c j)) Try.underlying3 Try.underlying3 hNm.out hkey.out hjw.out ?_
          refine go_ ?_
          refine ⟨(j + 1, N + 1), ⟨hlt, by have := HN.out; simp only; omega, fun _ => by omega, hF⟩, by simp only; omega, by repeat (first | exact Js _ | refine Jr (by simp [PF.get]; rfl) (by first | rfl | (simp [*]; done) | fail) ?_), ?_⟩
          simp only [HD]
          repeat (first | exact List.Sublist.refl _ | exact List.nil_sublist _ | refine List.Sublist.cons_cons _ ?_ | refine List.Sublist.cons _ ?_)
    · have hc : ¬ (j : Int) < c.length := by omega
      have hjl : j = c.length := by omega
      have hF : Hid (R = true) := by
        show _ = _
        rw [show R = _ from hR.out, List.drop_of_length_le (by omega)]
        by_cases h0 : 0 < j
        · rw [decide_eq_true (h256 h0)]; rfl
        · rw [decide_eq_true (by omega)]; rfl
      have HA : nsR c j = (c.map Va.n).reverse := by rw [hjl, nsR_all]
      rw [HA]
      clear hR hjl HA
      refine go_ ?_
      refine Jl (st' := [.obj i0 (MapO Try.prog 3 3 N (atD (c.map Va.n).reverse))]) (by simp) (by simp only [Try.results65]; rfl) (by simp [resP, St.box?, PF.get, Jm, TyK.agg, *]; rfl) (by repeat (first | exact List.Sublist.refl _ | exact List.nil_sublist _ | refine List.Sublist.cons_cons _ ?_ | refine List.Sublist.cons _ ?_)) ?_
      exact .inl ⟨hF.out, i0, N, rfl, rfl⟩
end Go.Proofs.Ytfnfbbmegdkhjaa

namespace Go.Proofs.Ytfnfbbmegdkhjaa
open Go.RowKit Go.WideMaps
set_option maxRecDepth 100000
def ixI (x : Int) : List Int → Nat → Option Nat
  | [], _ => none
  | y :: r, i => if (x == y) = true then some i else ixI x r (i + 1)
theorem ixI_some (x : Int) : ∀ (l : List Int) (i : Nat), (ixI x l i).isSome = decide (x ∈ l) := by
  intro l
  induction l with
  | nil => intro i; simp [ixI]
  | cons y r ih =>
    intro i
    rw [ixI]
    by_cases h : (x == y) = true
    · rw [if_pos h, beq_iff_eq.1 h]; simp
    · rw [if_neg h, ih, decide_eq_decide, List.mem_cons]
      have : ¬ x = y := by simpa using h
      simp [this]
set_option maxHeartbeats 8000000 in
theorem sindex_p (l : List Int) (x : Int) : PCalls Try.prog 115 [.d (.sl (l.map encD)), .d (.v (.int .i64 x))] [] fun p s => p = .d (.v (.int .i64 (plI (ixI x l 0)))) ∧ s = [] := by
  obtain ⟨R, hR⟩ : ∃ R, R = ixI x l 0 := ⟨_, rfl⟩
  rw [← hR]
  have HR : Hid (R = ixI x (l.drop 0) 0) := hR
  clear hR
  refine PCalls.enter Try.func115 rfl Try.ntmps115 (by simp) ?_
  simp only [argsF]
  refine PW_slen (t := 0) (rows := l.map encD) (by simp [PF.get] <;> rfl) rfl fun hml => ?_
  rw [List.length_map] at hml
  unfold maxLen at hml
  refine go_ ?_
  refine PW_loop (ι := Nat) (fun y => y ≤ l.length ∧ Hid (R = ixI x (l.drop y) y)) (fun y => [(0, .d (.sl (l.map encD))), (1, .d (.v (.int .i64 x))), (7, .d (.v (.int .i64 l.length))), (8, .d (.v (.int .i64 (y : Int))))]) (fun _ => []) (fun y => l.length - y) 0 ⟨Nat.zero_le _, HR.out⟩ ?_ ?_ ?_
  · repeat (first | exact Js _ | refine Jr (by simp [PF.get]; rfl) (by first | rfl | (simp [*]; done) | fail) ?_)
  · repeat (first | exact List.Sublist.refl _ | exact List.nil_sublist _ | refine List.Sublist.cons_cons _ ?_ | refine List.Sublist.cons _ ?_)
  · rintro j ⟨hj, hR⟩
    clear HR
    by_cases hlt : j < l.length
    · have hx := get_enc hlt
      have hc : (j : Int) < l.length := by omega
      have hn : (0 : Int) ≤ j := by omega
      have hin := wr64 (n := (j : Int) + 1) (by omega) (by omega)
      have hR2 : Hid (R = if (x == l[j]) = true then some j else ixI x (l.drop (j + 1)) (j + 1)) := by
        rw [show R = _ from hR.out, List.drop_eq_getElem_cons hlt]; rfl
      clear hR
      cases hq : (x == l[j]) with
      | true =>
        have hf : Hid (R = some j) := by show _ = _; rw [show R = _ from hR2.out, hq]; rfl
        clear hR2
        refine go_ ?_
        refine Jl (by simp) (by simp only [Try.results115]; rfl) (by simp [resP, St.box?, PF.get, Jm, TyK.agg, *]; rfl) (List.nil_sublist _) ?_
        exact ⟨by rw [hf.out]; rfl, rfl⟩
      | false =>
        have hR3 : Hid (R = ixI x (l.drop (j + 1)) (j + 1)) := by show _ = _; rw [show R = _ from hR2.out, hq]; rfl
        clear hR2
        refine go_ ?_
        exact ⟨j + 1, ⟨hlt, hR3⟩, by omega, by repeat (first | exact Js _ | refine Jr (by simp [PF.get]; rfl) (by first | rfl | (simp [*]; done) | fail) ?_), by repeat (first | exact List.Sublist.refl _ | exact List.nil_sublist _ | refine List.Sublist.cons_cons _ ?_ | refine List.Sublist.cons _ ?_)⟩
    · have hc : ¬ (j : Int) < l.length := by omega
      have hf : Hid (R = none) := by rw [show R = _ from hR.out, List.drop_of_length_le (by omega)]; rfl
      refine go_ ?_
      refine Jl (by simp) (by simp only [Try.results115]; rfl) (by simp [resP, St.box?, PF.get, Jm, TyK.agg, *]; rfl) (List.nil_sublist _) ?_
      exact ⟨by rw [hf.out]; rfl, rfl⟩
theorem scontains_p (l : List Int) (x : Int) : PCalls Try.prog 82 [.d (.sl (l.map encD)), .d (.v (.int .i64 x))] [] fun p s => p = .d (.v (.bool (decide (x ∈ l)))) ∧ s = [] := by
  have hc := Lib.hid (sindex_p l x)
  rw [← ixI_some x l 0]
  generalize ixI x l 0 = o at *
  cases o with
  | some i =>
    have hi : (0 : Int) ≤ (i : Int) := by omega
    simp only [plI] at hc
    refine PCalls.enter Try.func82 rfl Try.ntmps82 (by simp) ?_
    simp only [argsF]
    refine go_ ?_
    refine Jb (hc.out) ?_
    refine go_ ?_
    refine Jl (by simp) (by simp only [Try.results82]; rfl) (by simp [resP, St.box?, PF.get, Jm, TyK.agg, *]; rfl) (List.nil_sublist _) ?_
    exact ⟨by simp [tupP, PV.norm2, PV.norm1, PV.norm0, *], rfl⟩
  | none =>
    simp only [plI] at hc
    refine PCalls.enter Try.func82 rfl Try.ntmps82 (by simp) ?_
    simp only [argsF]
    refine go_ ?_
    refine Jb (hc.out) ?_
    refine go_ ?_
    refine Jl (by simp) (by simp only [Try.results82]; rfl) (by simp [resP, St.box?, PF.get, Jm, TyK.agg, *]; rfl) (List.nil_sublist _) ?_
    exact ⟨rfl, rfl⟩
def ixF (pr : Va → Bool) : List Va → Nat → Option Nat
  | [], _ => none
  | y :: r, i => if pr y = true then some i else ixF pr r (i + 1)
theorem ixF_some (pr : Va → Bool) : ∀ (l : List Va) (i : Nat), (ixF pr l i).isSome = l.any pr := by
  intro l
  induction l with
  | nil => intro i; rfl
  | cons y r ih =>
    intro i
    rw [ixF, List.any_cons]
    cases pr y with
    | true => simp
    | false => simp [ih]
set_option maxHeartbeats 8000000 in
theorem ixf_p (c : List Va) (f : FuncId) (cap : List PV) (st0 : St) (pr : Va → Bool) (hca : callable Try.prog f = true) (hcap : cap.map PV.norm1 = cap) (h : ∀ v ∈ c, PCalls Try.prog f (aggD v :: cap) st0 fun p s => p = .d (.v (.bool (pr v))) ∧ s = st0) :
    PCalls Try.prog 135 [.d (.sl (c.map encD)), .fn (.func f) [] cap] st0 fun p s => p = .d (.v (.int .i64 (plI (ixF pr c 0)))) ∧ s = st0 := by
  obtain ⟨R, hR⟩ : ∃ R, R = ixF pr c 0 := ⟨_, rfl⟩
  rw [← hR]
  have HR : Hid (R = ixF pr (c.drop 0) 0) := hR
  have HC := Lib.hid h
  have HCA := Lib.hid hca
  have HCP := Lib.hid hcap
  clear hR h hca hcap
  refine PCalls.enter Try.func135 rfl Try.ntmps135 (by simp) ?_
  simp only [argsF]
  refine PW_slen (t := 0) (rows := c.map encD) (by simp [PF.get] <;> rfl) rfl fun hml => ?_
  rw [List.length_map] at hml
  unfold maxLen at hml
  refine go_ ?_
  refine PW_loop (ι := Nat) (fun y => y ≤ c.length ∧ Hid (R = ixF pr (c.drop y) y)) (fun y => [(0, .d (.sl (c.map encD))), (1, .fn (.func f) [] cap), (7, .d (.v (.int .i64 c.length))), (8, .d (.v (.int .i64 (y : Int))))]) (fun _ => st0) (fun y => c.length - y) 0 ⟨Nat.zero_le _, HR.out⟩ ?_ ?_ ?_
  · repeat (first | exact Js _ | refine Jr (by simp [PF.get]; rfl) (by first | rfl | (simp [*]; done) | fail) ?_)
  · exact List.Sublist.refl _
  · rintro j ⟨hj, hR⟩
    clear HR
    by_cases hlt : j < c.length
    · have hx := get_enc hlt
      have hc : (j : Int) < c.length := by omega
      have hn : (0 : Int) ≤ j := by omega
      have hin := wr64 (n := (j : Int) + 1) (by omega) (by omega)
      have hR2 : Hid (R = if pr c[j] = true then some j else ixF pr (c.drop (j + 1)) (j + 1)) := by
        rw [show R = _ from hR.out, List.drop_eq_getElem_cons hlt]; rfl
      have hc1 := Lib.hid (HC.out _ (List.getElem_mem hlt))
      simp only [aggD, encD_va, List.map_cons, List.map_nil] at hc1
      clear hR
      generalize pr c[j] = q at *
      refine go_ ?_
      refine POps_callC 0 st0.length hc1.out (L := []) (M := []) ?_ HCA.out (hL := rfl) (h0 := by simp) (hM := by simp) (hn := by simp [PV.norm1, PV.norm0, HCP.out])
      rintro p s ⟨rfl, rfl⟩
      simp only [List.nil_append, List.append_nil]
      cases q with
      | true =>
        have hf : Hid (R = some j) := by show _ = _; rw [show R = _ from hR2.out]; rfl
        clear hR2
        refine go_ ?_
        refine Jl (st' := s) (by simp) (by simp only [Try.results135]; rfl) (by simp [resP, St.box?, PF.get, Jm, TyK.agg, *]; rfl) (by repeat (first | exact List.Sublist.refl _ | exact List.nil_sublist _ | refine List.Sublist.cons_cons _ ?_ | refine List.Sublist.cons _ ?_)) ?_
        exact ⟨by rw [hf.out]; rfl, rfl⟩
      | false =>
        have hR3 : Hid (R = ixF pr (c.drop (j + 1)) (j + 1)) := by show _ = _; rw [show R = _ from hR2.out]; rfl
        clear hR2
        refine go_ ?_
        exact ⟨j + 1, ⟨hlt, hR3⟩, by omega, by repeat (first | exact Js _ | refine Jr (by simp [PF.get]; rfl) (by first | rfl | (simp [*]; done) | fail) ?_), List.Sublist.refl _⟩
    · have hc : ¬ (j : Int) < c.length := by omega
      have hf : Hid (R = none) := by rw [show R = _ from hR.out, List.drop_of_length_le (by omega)]; rfl
      refine go_ ?_
      refine Jl (st' := st0) (by simp) (by simp only [Try.results135]; rfl) (by simp [resP, St.box?, PF.get, Jm, TyK.agg, *]; rfl) (by repeat (first | exact List.Sublist.refl _ | exact List.nil_sublist _ | refine List.Sublist.cons_cons _ ?_ | refine List.Sublist.cons _ ?_)) ?_
      exact ⟨by rw [hf.out]; rfl, rfl⟩
theorem ctf_p (c : List Va) (f : FuncId) (cap : List PV) (st0 : St) (pr : Va → Bool) (hca : callable Try.prog f = true) (hcap : cap.map PV.norm1 = cap) (h : ∀ v ∈ c, PCalls Try.prog f (aggD v :: cap) st0 fun p s => p = .d (.v (.bool (pr v))) ∧ s = st0) :
    PCalls Try.prog 104 [.d (.sl (c.map encD)), .fn (.func f) [] cap] st0 fun p s => p = .d (.v (.bool (c.any pr))) ∧ s = st0 := by
  have hc := Lib.hid (ixf_p c f cap st0 pr hca hcap h)
  rw [← ixF_some pr c 0]
  clear h hca hcap
  generalize ixF pr c 0 = o at *
  cases o with
  | some i =>
    have hi : (0 : Int) ≤ (i : Int) := by omega
    simp only [plI] at hc
    refine PCalls.enter Try.func104 rfl Try.ntmps104 (by simp) ?_
    simp only [argsF]
    refine go_ ?_
    refine Re (hc.out) ?_
    rintro p s ⟨rfl, rfl⟩
    refine go_ ?_
    refine Jl (st' := s) (by simp) (by simp only [Try.results104]; rfl) (by simp [resP, St.box?, PF.get, Jm, TyK.agg, *]; rfl) (by repeat (first | exact List.Sublist.refl _ | exact List.nil_sublist _ | refine List.Sublist.cons_cons _ ?_ | refine List.Sublist.cons _ ?_)) ?_
    exact ⟨by simp [tupP, PV.norm2, PV.norm1, PV.norm0, *], rfl⟩
  | none =>
    simp only [plI] at hc
    refine PCalls.enter Try.func104 rfl Try.ntmps104 (by simp) ?_
    simp only [argsF]
    refine go_ ?_
    refine Re (hc.out) ?_
    rintro p s ⟨rfl, rfl⟩
    refine go_ ?_
    refine Jl (st' := s) (by simp) (by simp only [Try.results104]; rfl) (by simp [resP, St.box?, PF.get, Jm, TyK.agg, *]; rfl) (by repeat (first | exact List.Sublist.refl _ | exact List.nil_sublist _ | refine List.Sublist.cons_cons _ ?_ | refine List.Sublist.cons _ ?_)) ?_
    exact ⟨rfl, rfl⟩
theorem ready1_p (v : Va) (b : Nat) (F : List Int) : PCalls Try.prog 105 [aggD v, .ptr b 0] [.box b 47 [.d (.sl (F.map encD))]] fun p s => p = .d (.v (.bool (decide (v.n ∈ F)))) ∧ s = [.box b 47 [.d (.sl (F.map encD))]] := by
  have hc := Lib.hid (scontains_p F v.n)
  generalize decide (v.n ∈ F) = q at *
  simp only [aggD, encD_va, List.map_cons, List.map_nil]
  refine PCalls.enter Try.func105 rfl Try.ntmps105 (by simp) ?_
  simp only [argsF]
  refine go_ ?_
  refine Jc ?_
  intro i0 hi0
  try simp only [Rh, Rg, Rf, Ja] at hi0
  refine go_ ?_
  refine Jb (hc.out) ?_
  refine go_ ?_
  refine Jl (st' := [.box b 47 [.d (.sl (F.map encD))]]) (by simp) (by simp only [Try.results105]; rfl) (by simp [resP, St.box?, PF.get, Jm, TyK.agg, *]; rfl) (by repeat (first | exact List.Sublist.refl _ | exact List.nil_sublist _ | refine List.Sublist.cons_cons _ ?_ | refine List.Sublist.cons _ ?_)) ?_
  exact ⟨by simp [tupP, PV.norm2, PV.norm1, PV.norm0], rfl⟩
theorem any_frees {t : Tm} (ht : shapedB t = true) (c : List Va) : (c.any fun v => decide (v.n ∈ enT 8 8 t)) = anyIn t c := by
  unfold anyIn
  congr 1
  funext v
  rw [Bool.eq_iff_iff, decide_eq_true_eq, frees_sd ht]
set_option maxHeartbeats 8000000 in
theorem fready_p (c : List Va) (hs : ∀ v ∈ c, shapedB v.ty = true) : PCalls Try.prog 67 [.d (.sl (c.map encD))] [] fun p s => p = .d (.v (.int .i64 (plI (readyV c)))) ∧ s = [] := by
  obtain ⟨R, hR⟩ : ∃ R, R = readyV c := ⟨_, rfl⟩
  rw [← hR]
  have HR : Hid (R = readyG c (c.drop 0) 0) := hR
  have HS := Lib.hid hs
  clear hR hs
  refine PCalls.enter Try.func67 rfl Try.ntmps67 (by simp) ?_
  simp only [argsF]
  refine PW_slen (t := 0) (rows := c.map encD) (by simp [PF.get] <;> rfl) rfl fun hml => ?_
  rw [List.length_map] at hml
  unfold maxLen at hml
  refine go_ ?_
  refine PW_loop (ι := Nat) (fun y => y ≤ c.length ∧ Hid (R = readyG c (c.drop y) y)) (fun y => [(0, .d (.sl (c.map encD))), (7, .d (.sl (c.map encD))), (8, .d (.v (.int .i64 c.length))), (9, .d (.v (.int .i64 (y : Int))))]) (fun _ => []) (fun y => c.length - y) 0 ⟨Nat.zero_le _, HR.out⟩ ?_ ?_ ?_
  · repeat (first | exact Js _ | refine Jr (by simp [PF.get]; rfl) (by first | rfl | (simp [*]; done) | fail) ?_)
  · repeat (first | exact List.Sublist.refl _ | exact List.nil_sublist _ | refine List.Sublist.cons_cons _ ?_ | refine List.Sublist.cons _ ?_)
  · rintro j ⟨hj, hR⟩
    clear HR
    by_cases hlt : j < c.length
    · have hx := get_enc hlt
      have hc : (j : Int) < c.length := by omega
      have hn : (0 : Int) ≤ j := by omega
      have hin := wr64 (n := (j : Int) + 1) (by omega) (by omega)
      have hR2 : Hid (R = if anyIn c[j].ty c = true then readyG c (c.drop (j + 1)) (j + 1) else some j) := by
        rw [show R = _ from hR.out, List.drop_eq_getElem_cons hlt]; rfl
      have hc1 := Lib.hid (tfrees_p c[j].ty)
      simp only [aggD, Jk, List.map_cons, List.map_nil] at hc1
      have hc2 := fun b => ctf_p c 105 [.ptr b 0] [.box b 47 [.d (.sl ((enT 8 8 c[j].ty).map encD))]] (fun v => decide (v.n ∈ enT 8 8 c[j].ty)) rfl rfl fun v _ => ready1_p v b _
      rw [any_frees (HS.out _ (List.getElem_mem hlt))] at hc2
      have HC2 := Lib.hid hc2
      clear hR hc2
      generalize anyIn c[j].ty c = q at *
      refine go_ ?_
      refine Jd ?_
      intro i2 hi2
      try simp only [Rh, Rg, Rf, Ja] at hi2
      refine go_ ?_
      refine Rc ?_
      refine go_ ?_
      refine Jb (hc1.out) ?_
      refine go_ ?_
      refine Jd ?_
      intro i3 hi3
      try simp only [Rh, Rg, Rf, Ja] at hi3
      refine go_ ?_
      refine Rc ?_
      refine go_ ?_
      refine POps_makeFunc2 ?_
      refine go_ ?_
      refine Rd 0 1 (HC2.out i3) ?_
      rintro p s ⟨rfl, rfl⟩
      simp only [List.cons_append, List.nil_append, List.append_nil, Rh, Rg, Rf]
      refine go_ ?_
      cases q with
      | false =>
        have hf : Hid (R = some j) := by show _ = _; rw [show R = _ from hR2.out]; rfl
        clear hR2
        refine go_ ?_
        refine Jl (by simp) (by simp only [Try.results67]; rfl) (by simp [resP, St.box?, PF.get, Jm, TyK.agg, *]; rfl) (List.nil_sublist _) ?_
        exact ⟨by rw [hf.out]; rfl, rfl⟩
      | true =>
        have hR3 : Hid (R = readyG c (c.drop (j + 1)) (j + 1)) := by show _ = _; rw [show R = _ from hR2.out]; rfl
        clear hR2
        refine go_ ?_
        exact ⟨j + 1, ⟨hlt, hR3⟩, by omega, by repeat (first | exact Js _ | refine Jr (by simp [PF.get]; rfl) (by first | rfl | (simp [*]; done) | fail) ?_), by repeat (first | exact List.Sublist.refl _ | exact List.nil_sublist _ | refine List.Sublist.cons_cons _ ?_ | refine List.Sublist.cons _ ?_)⟩
    · have hc : ¬ (j : Int) < c.length := by omega
      have hf : Hid (R = none) := by rw [show R = _ from hR.out, List.drop_of_length_le (by omega)]; rfl
      refine go_ ?_
      refine Jl (by simp) (by simp only [Try.results67]; rfl) (by simp [resP, St.box?, PF.get, Jm, TyK.agg, *]; rfl) (List.nil_sublist _) ?_
      exact ⟨by rw [hf.out]; rfl, rfl⟩
end Go.Proofs.Ytfnfbbmegdkhjaa

namespace Go.Proofs.Ytfnfbbmegdkhjaa
open Go.RowKit
set_option maxRecDepth 1000000
theorem isSome_set {b : Nat} : ∀ (vs : List Value) (o : Nat) (w : World) (x : Addr), (w.cell? x).isSome = true → ((w.setCells b o vs).cell? x).isSome = true := by
  intro vs
  induction vs with
  | nil => intro o w x h; exact h
  | cons v r ih =>
    intro o w x h
    rw [World.setCells]
    refine ih _ _ _ ?_
    by_cases hx : x = ⟨b, o, none⟩
    · subst hx
      obtain ⟨u, hu⟩ := Option.isSome_iff_exists.1 h
      rw [World.cell?_setCell_same _ _ _ hu]; rfl
    · rw [World.cell?_setCell_other _ _ _ _ (Ne.symm hx)]; exact h
theorem run_clear4 {P : Program} (w : World) (t e ty : TypeId) (z : Value) (zs : List Value) (ht : P.underlying t = some (.slice e)) (hv : ∀ w, (zeroValue e).run P w = .ok z w) (hz : z.cells = zs.toArray) (h4 : zs.length = 4) (h1 : ∀ v ∈ zs, v.oneCell' = true) (b o c : Nat)
    (hc : ∀ j, j < 4 → (w.cell? ⟨b, o + j, none⟩).isSome = true) (hf : ∀ j, j < 4 → w.frozen? ⟨b, o + j, none⟩ = false) :
    (Builtin.clear_ #[t] ty #[.slice (some ⟨b, o, none⟩) 1 c]).run P w = .ok (.tuple #[]) (w.setCells b o zs) := by
  have hzc : (Builtin.zeroCells z.cells 1).toList = zs := by
    rw [hz]
    match zs, h4 with
    | [x, y, u, v], _ => simp [Builtin.zeroCells]; rfl
  have hst := run_storeCells_cells (P := P) b o zs 0 w (by rw [h4]; simpa using hc) (by rw [h4]; simpa using hf) h1
  simp only [Nat.add_zero] at hst
  simp [Builtin.clear_, run_underlying ht, hv, hzc, hst]
set_option maxHeartbeats 4000000 in
theorem delete_any (b n c a : Nat) (news : List Value) (w : World) (hnc : n ≤ c) (hcm : c ≤ 9223372036854775807) (ha : a < n) (s1 : Hid (news.length = (n - (a + 1)) * 4)) (s2 : Hid (∀ u ∈ news, u.oneCell' = true))
    (hsrc : Hid (∀ t u, news[t]? = some u → w.cell? ⟨b, (a + 1) * 4 + t, none⟩ = some u)) (s3 : Hid (∀ k, k < n * 4 → (w.cell? ⟨b, k, none⟩).isSome = true ∧ w.frozen? ⟨b, k, none⟩ = false)) :
    Calls Try.prog 69 #[.slice (some ⟨b, 0, none⟩) n c, .int .i64 a, .int .i64 ((a : Int) + 1)] w fun e w' => e = .returned (.slice (some ⟨b, 0, none⟩) (n - 1) c) ∧ w' = (w.drew.setCells b (a * 4) news).setCells b ((n - 1) * 4) [.int .i64 0, .int .i64 0, .int .i64 0, .slice none 0 0] := by
  obtain ⟨i0, hi0, hs0⟩ : ∃ i0, Try.prog.info? 44 = some i0 ∧ i0.size = 4 := ⟨_, rfl, by kernel_rfl⟩
  obtain ⟨A, hA, hsA⟩ : ∃ A : Addr, (if c = a + 1 then (some (⟨b, 0, none⟩ : Addr)) else some ⟨b, (a + 1) * 4, none⟩) = some A ∧ Hid (∀ t u, news[t]? = some u → w.drew.cell? (A.add t) = some u) := by
    by_cases h : c = a + 1
    · refine ⟨⟨b, 0, none⟩, by simp [h], fun t u hu => ?_⟩
      have h0 : news.length = 0 := by rw [s1.out]; omega
      rw [List.length_eq_zero_iff.1 h0] at hu
      simp at hu
    · refine ⟨⟨b, (a + 1) * 4, none⟩, by simp [h], fun t u hu => ?_⟩
      rw [Addr.add_lit]
      exact hsrc.out t u hu
  have s3' : Hid (∀ t, t < news.length → (w.drew.cell? ⟨b, 0 + a * 4 + t, none⟩).isSome = true ∧ w.drew.frozen? ⟨b, 0 + a * 4 + t, none⟩ = false) := by
    intro t ht
    rw [s1.out] at ht
    rw [Nat.zero_add]
    exact s3.out (a * 4 + t) (by omega)
  obtain ⟨W1, hW1⟩ : ∃ W1, W1 = w.drew.setCells b (0 + a * 4) news := ⟨_, rfl⟩
  have hW : Hid (W1 = w.drew.setCells b (0 + a * 4) news) := hW1
  have hic : a ≤ c := by omega
  have hjc : a + 1 ≤ c := by omega
  have hna : (n : Int) - 1 = ((n - 1 : Nat) : Int) := by omega
  have b0 : (0 : Int) ≤ (a : Int) + 1 := by omega
  have b1 : (a : Int) + 1 ≤ n := by omega
  have mixed : Try.prog.follows .mixedOrders = true := by kernel_rfl
  have hcl : ∀ ty, (Builtin.clear_ #[22] ty #[.slice (some ⟨b, (a + (n - (a + 1))) * 4, none⟩) (n - (a + (n - (a + 1)))) (c - (a + (n - (a + 1))))]).run Try.prog W1 = .ok (.tuple #[]) (W1.setCells b ((n - 1) * 4) [.int .i64 0, .int .i64 0, .int .i64 0, .slice none 0 0]) := by
    intro ty
    rw [show n - (a + (n - (a + 1))) = 1 by omega, show a + (n - (a + 1)) = n - 1 by omega]
    refine run_clear4 W1 _ _ ty (.agg #[.int .i64 0, .int .i64 0, .int .i64 0, .slice none 0 0]) _ Try.underlying22 Try.zeroValue44 rfl rfl (by simp [Value.oneCell']) b _ _ (fun j hj => ?_) fun j hj => ?_
    · rw [hW1]
      exact isSome_set _ _ _ _ (s3.out ((n - 1) * 4 + j) (by omega)).1
    · rw [hW1, World.frozen?_setCells]
      exact (s3.out ((n - 1) * 4 + j) (by omega)).2
  clear hW1
  go_enter Try.func69, Try.ntmps69
  go_wp2_with fail
  go_region_law_o (refine step_append_room rfl (.tmp 22) (.tmp 25) 22 rfl 44 i0 4 Try.underlying22 hi0 hs0 b 0 a c (by simp [Act.eval, Act.put]) A (n - (a + 1)) (c - (a + 1)) news (by simp [Act.eval, Act.put]) s1.out hsA.out s2.out (by omega) s3'.out ?_; rw [← hW.out])
  go_wp2_with fail
  go_ret
  refine ⟨by rw [show a + (n - (a + 1)) = n - 1 by omega]; rfl, ?_⟩
  rw [hW.out, Nat.zero_add]
/-- the copy of a context, to be written -/
theorem clone_va_o (rows : List (List D)) (hl : ∀ row ∈ rows, row.length = 4) (h0 : 0 < rows.length) (hn : rows.length ≤ 100000) : PCalls Try.prog 66 [.d (.sl rows)] [] fun p s => ∃ g, p = .own g rows ∧ s = [.tok g 44 4 rows.length] := by
  have HL := Lib.hid hl
  have hne : ¬ rows = [] := by intro e; rw [e] at h0; exact absurd h0 (by decide)
  clear hl
  refine PCalls.enter Try.func66 rfl Try.ntmps66 (by simp) ?_
  simp only [argsF]
  refine go_ ?_
  refine POps_eqlNil (fun h => absurd h hne) ?_
  refine go_ ?_
  refine POps_bs0 ?_ (by decide) (by first | (simp [nev, nevA, nevB, Jo, PF.eval, PF.get, PF.wants, cPV, cCell, PV.rows, evBin, evUn, Jp, evLen, loadA, Jm, TyK.agg, partA, St.box?, St.tok?, St.setBox, St.setTok, fillO, spl, PV.ps, PV.one, Jn, aggD, slD, Jg, Jj, Jh, Ji, Jf, Je, *]; done) | fail) (by simp; rfl) (by rfl) (by simp; rfl) (by rfl) (by decide)
  intro g hg
  refine go_ ?_
  refine POps_app_a rows.length ?_ ?_ ?_ ?_
  · simp
  · simp
  · exact HL.out
  refine go_ ?_
  refine retP_keep (by simp) (by simp only [Try.results66]; rfl) (by simp [resP]; rfl) (by repeat (first | exact List.Sublist.refl _ | exact List.nil_sublist _ | refine List.Sublist.cons_cons _ ?_ | refine List.Sublist.cons _ ?_)) ⟨g, rfl, rfl⟩
theorem rows4 (l : List Va) : ∀ row ∈ l.map encD, row.length = 4 := rows_of rfl
theorem clone_va (c : List Va) (h0 : 0 < c.length) (hn : c.length ≤ 100000) : PCalls Try.prog 66 [.d (.sl (c.map encD))] [] fun p s => ∃ i q, c.length ≤ q ∧ q ≤ maxLen ∧ p = .bsl i c.length q ∧ s = [.box i 44 (boxC (c.map encD) 4 q)] := by
  refine (PCalls.boxed (sz := 4) (E := 44) (by decide) (by rw [List.length_map]; exact h0) (rows4 c) fun rows' hl hlen => ?_).mono ?_
  · rw [List.length_map] at hlen
    exact clone_va_o rows' hl (by omega) (by omega)
  · rintro p s ⟨i, q, h1, h2, h3, h4⟩
    rw [List.length_map] at h1 h3
    exact ⟨i, q, h1, h2, h3, h4⟩
theorem flat_erase {α : Type} {sz : Nat} (rows : List (List α)) (a : Nat) (hl : ∀ row ∈ rows, row.length = sz) (ha : a < rows.length) (j : Nat) :
    (rows.eraseIdx a).flatten[j]? = if j < a * sz then rows.flatten[j]? else rows.flatten[j + sz]? := by
  have h1 : rows = rows.take a ++ rows[a] :: rows.drop (a + 1) := by rw [← List.drop_eq_getElem_cons ha, List.take_append_drop]
  have h2 : (rows.take a).flatten.length = a * sz := by
    rw [flat_len (sz := sz) _ (fun y hy => hl y (List.mem_of_mem_take hy)), List.length_take, Nat.min_eq_left (by omega)]
  have h3 : rows[a].length = sz := hl _ (List.getElem_mem ha)
  have h4 : rows.flatten = (rows.take a).flatten ++ (rows[a] ++ (rows.drop (a + 1)).flatten) := by
    conv => lhs; rw [h1]
    rw [List.flatten_append, List.flatten_cons]
  rw [List.eraseIdx_eq_take_drop_succ, List.flatten_append, h4]
  split
  · rename_i hj
    rw [List.getElem?_append_left (by omega), List.getElem?_append_left (by omega)]
  · rename_i hj
    rw [List.getElem?_append_right (by omega), List.getElem?_append_right (by omega), List.getElem?_append_right (by omega), h2, h3, show j + sz - a * sz - sz = j - a * sz by omega]
set_option maxHeartbeats 4000000 in
theorem fdelete_p (i c a : Nat) (rows : List (List D)) (hl : ∀ row ∈ rows, row.length = 4) (ha : a < rows.length) (hnc : rows.length ≤ c) (hcm : c ≤ maxLen) :
    PCalls Try.prog 69 [.bsl i rows.length c, .d (.v (.int .i64 a)), .d (.v (.int .i64 ((a : Int) + 1)))] [.box i 44 (boxC rows 4 c)]
      fun p s => p = .bsl i (rows.length - 1) c ∧ s = [.box i 44 (boxC (rows.eraseIdx a) 4 c)] := by
  intro F K w vs hr hargs
  obtain ⟨v, u, x, rfl, hv, hu, hx⟩ := hargs.three
  obtain rfl := int_of hu
  obtain rfl := int_of hx
  obtain ⟨b, arr, hk, hF, hh, hsz, hrel, hnk⟩ := hr.ents (.box i 44 (boxC rows 4 c)) (by simp)
  rw [boxC_len hl hnc] at hsz
  cases hv with
  | @bsl _ _ _ b' hb' h1 h2 =>
  rw [hk] at hb'
  obtain rfl := Option.some.inj hb'
  have hfl := flat_len rows hl
  have hd : ∀ j, j < rows.length * 4 → ∃ d u, rows.flatten[j]? = some d ∧ arr[j]? = some u ∧ RelD K.cell w d u := by
    intro j hj
    have e1 : j < rows.flatten.length := by rw [hfl]; exact hj
    have e2 : j < arr.size := by omega
    refine ⟨_, _, List.getElem?_eq_getElem e1, Array.getElem?_eq_getElem e2, ?_⟩
    have := hrel j (.d rows.flatten[j]) arr[j] (by unfold boxC; rw [List.getElem?_append_left (by rw [List.length_map]; exact e1), List.getElem?_map, List.getElem?_eq_getElem e1]; rfl) (Array.getElem?_eq_getElem e2)
    cases this with
    | d h => exact h
  obtain ⟨news, hnews⟩ : ∃ news, news = (arr.toList.drop ((a + 1) * 4)).take ((rows.length - (a + 1)) * 4) := ⟨_, rfl⟩
  have hnl : news.length = (rows.length - (a + 1)) * 4 := by have : arr.toList.length = arr.size := Array.length_toList; rw [hnews, List.length_take, List.length_drop]; omega
  have hna : ∀ t, t < news.length → news[t]? = arr[(a + 1) * 4 + t]? := by
    intro t ht
    rw [hnews, List.getElem?_take_of_lt (by omega), List.getElem?_drop, Array.getElem?_toList]
  have hcell : ∀ k, w.cell? ⟨b, k, none⟩ = arr[k]? := fun k => cell_at hh k
  have hfz : ∀ k, w.frozen? ⟨b, k, none⟩ = false := by
    intro k
    unfold World.frozen?; rw [hh]; simp
  refine (delete_any b rows.length c a news w hnc (by unfold maxLen at hcm; omega) ha hnl (fun y hy => ?_) (fun t y hy => ?_) fun k hk => ⟨?_, hfz k⟩).mono ?_
  · obtain ⟨t, ht, rfl⟩ := List.getElem_of_mem hy
    have e := hna t ht
    rw [List.getElem?_eq_getElem ht] at e
    obtain ⟨d, u, -, h5, h6⟩ := hd ((a + 1) * 4 + t) (by omega)
    rw [h5] at e
    rw [Option.some.inj e]
    exact okv_one (relD_ok h6)
  · have ht := (List.getElem?_eq_some_iff.1 hy).1
    rw [hcell, ← hna t ht]; exact hy
  · rw [hcell, Array.getElem?_eq_getElem (by omega)]; rfl
  rintro e w' ⟨rfl, rfl⟩
  have hblk : w.drew.heap[b]? = some (.cells arr 44) := hh
  have hb1 := setCells_block news (a * 4) w.drew arr hblk
  have hb2 := setCells_block [.int .i64 0, .int .i64 0, .int .i64 0, .slice none 0 0] ((rows.length - 1) * 4) _ _ hb1
  obtain ⟨r1, r2, r3, r4⟩ := setCells_rest (b := b) news (a * 4) w.drew
  obtain ⟨q1, q2, q3, q4⟩ := setCells_rest (b := b) [.int .i64 0, .int .i64 0, .int .i64 0, .slice none 0 0] ((rows.length - 1) * 4) (w.drew.setCells b (a * 4) news)
  have hle : ∀ row ∈ rows.eraseIdx a, row.length = 4 := fun y hy => hl y (List.mem_of_mem_eraseIdx hy)
  have hlen : (rows.eraseIdx a).length = rows.length - 1 := by rw [List.length_eraseIdx, if_pos ha]
  obtain ⟨hx2, hr2⟩ := Rel.setBox (l := []) (r := []) (ds := boxC (rows.eraseIdx a) 4 c) hr hk (q1.trans r1) (q2.trans r2) (q3.trans r3) (q4.trans r4) hb2
    (fun k hk => (setCells_other hk _ _ _).trans (setCells_other hk _ _ _)) (by rw [putA_size, putA_size, hsz, boxC_len hle (by omega)]) fun j p v hp hv => by
      unfold boxC at hp
      have hfe := flat_len (rows.eraseIdx a) hle
      by_cases hj : j < (rows.eraseIdx a).flatten.length
      · rw [List.getElem?_append_left (by rw [List.length_map]; exact hj), List.getElem?_map, List.getElem?_eq_getElem hj] at hp
        obtain rfl := Option.some.inj hp
        rw [hfe, hlen] at hj
        rw [putA_out _ _ _ _ (by omega)] at hv
        have he := flat_erase rows a hl ha j
        rw [List.getElem?_eq_getElem (by rw [hfe, hlen]; exact hj)] at he
        by_cases hja : j < a * 4
        · rw [if_pos hja] at he
          rw [putA_out _ _ _ _ (by omega)] at hv
          obtain ⟨d, u, h4, h5, h6⟩ := hd j (by omega)
          rw [h4] at he
          rw [h5] at hv
          rw [Option.some.inj he, ← Option.some.inj hv]
          exact .d h6
        · rw [if_neg hja] at he
          obtain ⟨t, rfl⟩ : ∃ t, j = a * 4 + t := ⟨j - a * 4, by omega⟩
          rw [putA_in _ _ _ _ (by rw [hnl]; omega) (by rw [hnl]; omega), hna t (by rw [hnl]; omega), show (a + 1) * 4 + t = a * 4 + t + 4 by omega] at hv
          obtain ⟨d, u, h4, h5, h6⟩ := hd (a * 4 + t + 4) (by omega)
          rw [h4] at he
          rw [h5] at hv
          rw [Option.some.inj he, ← Option.some.inj hv]
          exact .d h6
      · rw [List.getElem?_append_right (by rw [List.length_map]; omega)] at hp
        have := List.mem_of_getElem? hp
        rw [List.mem_replicate] at this
        rw [this.2]
        exact .u
  exact ⟨_, K, .bsl i (rows.length - 1) c, _, rfl, hx2, hr2, .bsl hk (by omega) hcm, rfl, rfl⟩
end Go.Proofs.Ytfnfbbmegdkhjaa

namespace Go.Proofs.Ytfnfbbmegdkhjaa
open Go.RowKit Go.WideMaps
set_option maxRecDepth 100000
theorem flat_drop {α : Type} {sz : Nat} : ∀ (rows : List (List α)) (k : Nat), (∀ row ∈ rows, row.length = sz) → rows.flatten.drop (k * sz) = (rows.drop k).flatten := by
  intro rows
  induction rows with
  | nil => intro k _; simp
  | cons x rest ih =>
    intro k hl
    cases k with
    | zero => simp
    | succ k =>
      rw [List.flatten_cons, Nat.succ_mul, List.drop_succ_cons, ← ih k fun y hy => hl y (by simp [hy])]
      have := hl x (by simp)
      rw [List.drop_append, List.drop_of_length_le (by omega), this, List.nil_append, show k * sz + sz - sz = k * sz by omega]
theorem boxC_drop {rows : List (List D)} {sz c k : Nat} {row : List D} (hl : ∀ row ∈ rows, row.length = sz) (hk : rows[k]? = some row) : ∃ rest, (boxC rows sz c).drop (k * sz) = row.map .d ++ rest := by
  have hlt := (List.getElem?_eq_some_iff.1 hk).1
  have hle : k * sz ≤ rows.flatten.length := by rw [flat_len rows hl]; exact Nat.mul_le_mul_right _ (by omega)
  unfold boxC
  rw [List.drop_append_of_le_length (by rw [List.length_map]; exact hle), ← List.map_drop, flat_drop rows k hl, List.drop_eq_getElem_cons hlt, List.flatten_cons, List.map_append, List.append_assoc]
  have := Option.some.inj ((List.getElem?_eq_getElem hlt).symm.trans hk)
  rw [this]
  exact ⟨_, rfl⟩
theorem clone_nil : PCalls Try.prog 66 [.d (.sl [])] [] fun p s => p = .d (.sl []) ∧ s = [] := by
  refine PCalls.enter Try.func66 rfl Try.ntmps66 (by simp) ?_
  simp only [argsF]
  refine go_ ?_
  refine POps_eqlNil (fun h0 => ?_) ?_
  · refine go_ ?_
    refine Jl (by simp) (by simp only [Try.results66]; rfl) (by simp [resP, St.box?, PF.get, Jm, TyK.agg, *]; rfl) (List.nil_sublist _) ?_
    exact ⟨rfl, rfl⟩
  · refine go_ ?_
    refine POps_bs0 ?_ (by decide) (by first | (simp [nev, nevA, nevB, Jo, PF.eval, PF.get, PF.wants, cPV, cCell, PV.rows, evBin, evUn, Jp, evLen, loadA, Jm, TyK.agg, partA, St.box?, St.tok?, St.setBox, St.setTok, fillO, spl, PV.ps, PV.one, Jn, aggD, slD, Jg, Jj, Jh, Ji, Jf, Je, *]; done) | fail) (by simp; rfl) (by rfl) (by simp; rfl) (by rfl) (by decide)
    intro g hg
    refine go_ ?_
    refine POps_app_a 0 ?_ ?_ ?_ ?_
    · simp
    · simp
    · simp
    refine go_ ?_
    refine Jl (by simp) (by simp only [Try.results66]; rfl) (by simp [resP, St.box?, PF.get, Jm, TyK.agg, *]; rfl) (List.nil_sublist _) ?_
    exact ⟨rfl, rfl⟩
theorem fdel_va (i q k : Nat) (left : List Va) (hk : k < left.length) (hq : left.length ≤ q) (hm : q ≤ maxLen) :
    PCalls Try.prog 69 [.bsl i left.length q, .d (.v (.int .i64 k)), .d (.v (.int .i64 ((k : Int) + 1)))] [.box i 44 (boxC (left.map encD) 4 q)]
      fun p s => p = .bsl i (left.eraseIdx k).length q ∧ s = [.box i 44 (boxC ((left.eraseIdx k).map encD) 4 q)] := by
  have h := fdelete_p i q k (left.map encD) (rows4 left) (by rw [List.length_map]; exact hk) (by rw [List.length_map]; exact hq) hm
  rw [List.length_map] at h
  have e1 : (left.eraseIdx k).length = left.length - 1 := by rw [List.length_eraseIdx, if_pos hk]
  have e2 : (left.map encD).eraseIdx k = (left.eraseIdx k).map encD := by
    rw [List.eraseIdx_eq_take_drop_succ, List.eraseIdx_eq_take_drop_succ, List.map_append, List.map_take, List.map_drop]
  rw [e1, ← e2]
  exact h
def ordP (r : List Va × Int) : PV := .tup [.d (.sl (r.1.map encD)), .d (.v (.int .i64 r.2))]
theorem fit_shaped {v : Va} (h : fitV v = true) : shapedB v.ty = true := by
  unfold fitV at h
  rw [Bool.and_eq_true] at h
  exact h.2
theorem copy_shaped {t : Tm} (h : shapedB t = true) : copyT t = t := by unfold copyT; rw [if_pos h]
set_option maxHeartbeats 16000000 in
theorem forder_p (c : List Va) (hl : c.length ≤ 100000) : PCalls Try.prog 19 [.d (.sl (c.map encD))] [] fun p s => p = ordP (orderR c) ∧ s = [] := by
  have hP := Lib.hid (fplaces_p c hl)
  cases hS : shapedV c with
  | false =>
    have HR : Hid (orderR c = ([], 5)) := by show _ = _; unfold orderR; rw [hS]; rfl
    rw [HR.out]
    rw [hS] at hP
    clear HR hS
    refine PCalls.enter Try.func19 rfl Try.ntmps19 (by simp) ?_
    simp only [argsF]
    refine go_ ?_
    refine Rd 0 0 (hP.out) ?_
    rintro p s (⟨h, -⟩ | ⟨-, rfl, rfl⟩)
    · cases h
    simp only [List.cons_append, List.nil_append, List.append_nil, Rh, Rg, Rf]
    refine go_ ?_
    refine Jl (by simp) (by simp only [Try.results19]; rfl) (by simp [resP, St.box?, PF.get, Jm, TyK.agg, *]; rfl) (List.nil_sublist _) ?_
    exact ⟨rfl, rfl⟩
  | true =>
  rw [hS] at hP
  have hz := atD_size (c.map Va.n).reverse
  rw [List.length_reverse, List.length_map, (List.reverse_perm _).nodup_iff] at hz
  cases hO : onceV c with
  | false =>
    have HR : Hid (orderR c = ([], 4)) := by show _ = _; unfold orderR; rw [hS, hO]; rfl
    rw [HR.out]
    have hne : ¬ Maps.size (atD (c.map Va.n).reverse) = c.length := by
      intro e
      unfold onceV at hO
      exact absurd (hz.2.1 e) (of_decide_eq_false hO)
    have hb : ((Maps.size (atD (c.map Va.n).reverse) : Int) != (c.length : Int)) = true := by
      rw [bne_iff_ne]; omega
    clear HR hS hz hne
    generalize hzz : Maps.size (atD (c.map Va.n).reverse) = z at *
    refine PCalls.enter Try.func19 rfl Try.ntmps19 (by simp) ?_
    simp only [argsF]
    refine go_ ?_
    refine Rd 0 0 (hP.out) ?_
    rintro p s (⟨-, i, N, rfl, rfl⟩ | ⟨h, -⟩)
    rotate_left
    · cases h
    simp only [List.cons_append, List.nil_append, List.append_nil, Rh, Rg, Rf]
    refine go_ ?_
    refine POps_lenMap (D := atD (c.map Va.n).reverse) z hzz ?_
    refine go_ ?_
    refine Jl (by simp) (by simp only [Try.results19]; rfl) (by simp [resP, St.box?, PF.get, Jm, TyK.agg, *]; rfl) (List.nil_sublist _) ?_
    exact ⟨rfl, rfl⟩
  | true =>
  have hne : Maps.size (atD (c.map Va.n).reverse) = c.length := by
    unfold onceV at hO
    exact hz.2.2 (of_decide_eq_true hO)
  have hb : ((Maps.size (atD (c.map Va.n).reverse) : Int) != (c.length : Int)) = false := by
    rw [hne]; simp
  have HR0 : orderR c = match orderG c.length c with
    | none => ([], 3)
    | some l => (l, 0) := by unfold orderR; rw [hS, hO]; rfl
  by_cases h0 : c.length = 0
  · obtain rfl := List.length_eq_zero_iff.1 h0
    rw [HR0]
    clear HR0 hS hz hO h0
    generalize hzz : Maps.size (atD (([] : List Va).map Va.n).reverse) = z at *
    refine PCalls.enter Try.func19 rfl Try.ntmps19 (by simp) ?_
    simp only [argsF]
    refine go_ ?_
    refine Rd 0 0 (hP.out) ?_
    rintro p s (⟨-, i, N, rfl, rfl⟩ | ⟨h, -⟩)
    rotate_left
    · cases h
    simp only [List.cons_append, List.nil_append, List.append_nil, Rh, Rg, Rf]
    refine go_ ?_
    refine POps_lenMap (D := atD (([] : List Va).map Va.n).reverse) z hzz ?_
    refine go_ ?_
    refine Jb (clone_nil) ?_
    refine go_ ?_
    refine PW_loop (ι := Unit) (fun _ => True) (fun _ => [(6, .nils), (7, .d (.sl []))]) (fun _ => []) (fun _ => 0) () trivial ?_ ?_ ?_
    · repeat (first | exact Js _ | refine Jr (by simp [PF.get]; rfl) (by first | rfl | (simp [*]; done) | fail) ?_)
    · repeat (first | exact List.Sublist.refl _ | exact List.nil_sublist _ | refine List.Sublist.cons_cons _ ?_ | refine List.Sublist.cons _ ?_)
    rintro ⟨⟩ -
    refine go_ ?_
    refine Jl (by simp) (by simp only [Try.results19]; rfl) (by simp [resP, St.box?, PF.get, Jm, TyK.agg, *]; rfl) (List.nil_sublist _) ?_
    exact ⟨rfl, rfl⟩
  have HS := Lib.hid (show ∀ v ∈ c, shapedB v.ty = true from fun v hv => by
    unfold shapedV at hS
    rw [Bool.and_eq_true] at hS
    exact fit_shaped (List.all_eq_true.1 hS.1 v hv))
  have hC := Lib.hid (clone_va c (by omega) hl)
  obtain ⟨R, hR⟩ : ∃ R, R = orderG c.length c := ⟨_, rfl⟩
  rw [HR0, ← hR]
  have HR := Lib.hid hR
  have HL := Lib.hid hl
  clear hR HR0 hS hz hO h0 hl
  generalize hzz : Maps.size (atD (c.map Va.n).reverse) = z at *
  refine PCalls.enter Try.func19 rfl Try.ntmps19 (by simp) ?_
  simp only [argsF]
  refine go_ ?_
  refine Rd 0 0 (hP.out) ?_
  rintro p s (⟨-, i, N, rfl, rfl⟩ | ⟨h, -⟩)
  rotate_left
  · cases h
  simp only [List.cons_append, List.nil_append, List.append_nil, Rh, Rg, Rf]
  refine go_ ?_
  refine POps_lenMap (D := atD (c.map Va.n).reverse) z hzz ?_
  refine go_ ?_
  refine Rd 0 0 (hC.out) ?_
  rintro p s ⟨i1, q, hq1, hq2, rfl, rfl⟩
  simp only [List.cons_append, List.nil_append, List.append_nil, Rh, Rg, Rf]
  refine go_ ?_
  refine PW_own 6 44 4 (by decide) (by simp [PF.get] <;> rfl) fun g hg => ?_
  refine PW_loop (ι := List Va × List Va) (fun y => Hid (R = (orderG y.2.length y.2).map (fun l => y.1 ++ l)) ∧ Hid (∀ v ∈ y.2, shapedB v.ty = true) ∧ y.2.length ≤ q ∧ y.1.length + y.2.length ≤ 100000) (fun y => [(6, .own g (y.1.map encD)), (7, .bsl i1 y.2.length q)]) (fun y => [.tok g 44 4 y.1.length, .box i1 44 (boxC (y.2.map encD) 4 q)]) (fun y => y.2.length) ([], c) ⟨by show _ = _; rw [HR.out]; cases orderG c.length c <;> simp, HS.out, hq1, by simpa using HL.out⟩ ?_ ?_ ?_
  · repeat (first | exact Js _ | refine Jr (by simp [PF.get]; rfl) (by first | rfl | (simp [*]; done) | fail) ?_)
  · repeat (first | exact List.Sublist.refl _ | exact List.nil_sublist _ | refine List.Sublist.cons_cons _ ?_ | refine List.Sublist.cons _ ?_)
  rintro ⟨o, left⟩ ⟨hR, hs, hlq, hol⟩
  simp only at hR hs hlq hol ⊢
  clear hq1 HS HR HL
  by_cases hlt : 0 < left.length
  · have hc : (0 : Int) < left.length := by omega
    have hF := Lib.hid (PCalls.frz (P := Try.prog) (f := 67) (pre := []) (post := []) (i := i1) (c := q) (T := 44) (cs := boxC (left.map encD) 4 q) (n := left.length) (x := .int .i64 (plI (readyV left))) trivial (boxC_in (by decide) (rows4 left)) (by rw [List.length_map]) (fready_p left hs.out))
    simp only [List.nil_append] at hF
    obtain ⟨m, hm⟩ : ∃ m, left.length = m + 1 := ⟨left.length - 1, by omega⟩
    have hR2 := hR.out
    rw [hm, orderG] at hR2
    cases hq : readyV left with
    | none =>
      rw [hq] at hF hR2
      simp only [Option.map_none] at hR2
      have hf := Lib.hid hR2
      simp only [plI] at hF
      clear hR hR2 hq hs hm
      refine go_ ?_
      refine Rd 1 1 (hF.out) ?_
      rintro p s ⟨rfl, rfl⟩
      simp only [List.cons_append, List.nil_append, List.append_nil, Rh, Rg, Rf]
      refine go_ ?_
      refine Jl (by simp) (by simp only [Try.results19]; rfl) (by simp [resP, St.box?, PF.get, Jm, TyK.agg, *]; rfl) (List.nil_sublist _) ?_
      exact ⟨by rw [hf.out]; rfl, rfl⟩
    | some k =>
      rw [hq] at hF hR2
      obtain ⟨v, hv, -⟩ := readyV_some hq
      simp only at hR2
      rw [hv] at hR2
      simp only at hR2
      simp only [plI] at hF
      have hkl : k < left.length := (List.getElem?_eq_some_iff.1 hv).1
      have hk0 : ¬ ((k : Int) < 0) := by omega
      have hk1 : (0 : Int) ≤ (k : Int) := by omega
      have hk2 : (k : Int) < (left.length : Int) := by omega
      have hin := wr64 (n := (k : Int) + 1) (by omega) (by omega)
      have hCp := Lib.hid (tCopy_p v.ty)
      rw [copy_shaped (hs.out v (List.mem_of_getElem? hv))] at hCp
      simp only [aggD, Jk, List.map_cons, List.map_nil] at hCp
      have hD := Lib.hid (fdel_va i1 q k left hkl hlq hq2)
      obtain ⟨rest, hdr⟩ := boxC_drop (c := q) (rows4 left) (show (left.map encD)[k]? = some (encD v) by rw [List.getElem?_map, hv]; rfl)
      simp only [encD_va, List.map_cons, List.map_nil, List.cons_append, List.nil_append] at hdr
      have hdr1 : (boxC (left.map encD) 4 q).drop (k * 4 + 1) = .d (.v (.int .i64 v.ty.kind)) :: .d (.v (.int .i64 v.ty.num)) :: .d (.sl (v.ty.sub.map encD)) :: rest := by
        rw [← List.drop_drop, hdr]; rfl
      have hel : (left.eraseIdx k).length = m := by rw [List.length_eraseIdx, if_pos hkl]; omega
      have hnext : Hid (R = (orderG (left.eraseIdx k).length (left.eraseIdx k)).map (fun l => (o ++ [v]) ++ l)) := by
        show _ = _
        rw [hR2, hel]
        cases orderG m (left.eraseIdx k) <;> simp
      have hsn : Hid (∀ x ∈ left.eraseIdx k, shapedB x.ty = true) := fun x hx => hs.out x (List.mem_of_mem_eraseIdx hx)
      have hol2 : o.length ≤ 100000 := by omega
      have HLEN := Lib.hid hm
      have HEL := Lib.hid hel
      have HOL := Lib.hid hol
      have HLQ := Lib.hid hlq
      have HLT := Lib.hid hkl
      clear hR hR2 hq hs hv hel hm hol hlq hkl
      generalize left.eraseIdx k = left2 at *
      generalize boxC (left.map encD) 4 q = cs at *
      refine go_ ?_
      refine Rd 1 1 (hF.out) ?_
      rintro p s ⟨rfl, rfl⟩
      simp only [List.cons_append, List.nil_append, List.append_nil, Rh, Rg, Rf]
      refine go_ ?_
      refine PW_drawn [(0, .a), (1, .a), (2, .a), (3, .a), (4, .a), (5, .b), (6, .a), (7, .a), (8, .a), (9, .a), (10, .b), (11, .a), (12, .a), (13, .a), (14, .e), (15, .a)] (by kernel_rfl) (by rfl) (by kernel_rfl) ?_
      refine go_ ?_
      refine POrd_call_a (hCp.out) ?_
      refine go_ ?_
      refine POrd_bs_a ?_
      refine go_ ?_
      refine POrd_app_a (o.length + 1) ?_ ?_ ?_ ?_
      · simp
      · exact rows4 _
      · exact rows_one rfl
      refine go_ ?_
      refine Rd 1 1 (hD.out) ?_
      rintro p s ⟨rfl, rfl⟩
      simp only [List.cons_append, List.nil_append, List.append_nil, Rh, Rg, Rf]
      refine go_ ?_
      refine ⟨(o ++ [v], left2), ⟨hnext, hsn, by have := HEL.out; have := HLEN.out; have := HLQ.out; simp only; omega, by have := HEL.out; have := HLEN.out; have := HOL.out; simp only [List.length_append, List.length_singleton]; omega⟩, by have := HEL.out; have := HLEN.out; simp only; omega, ?_, ?_⟩
      · repeat (first | exact Js _ | refine Jr (by simp [PF.get]; rfl) (by first | rfl | (simp [encD_va]; done) | fail) ?_)
      · simp only [List.length_append, List.length_singleton]
        repeat (first | exact List.Sublist.refl _ | exact List.nil_sublist _ | refine List.Sublist.cons_cons _ ?_ | refine List.Sublist.cons _ ?_)
  · obtain rfl : left = [] := List.length_eq_zero_iff.1 (by omega)
    have hf : Hid (R = some o) := by show _ = _; rw [hR.out]; simp [orderG]
    clear hR hs
    refine go_ ?_
    refine Jl (by simp) (by simp only [Try.results19]; rfl) (by simp [resP, St.box?, PF.get, Jm, TyK.agg, *]; rfl) (List.nil_sublist _) ?_
    exact ⟨by rw [hf.out]; rfl, rfl⟩
end Go.Proofs.Ytfnfbbmegdkhjaa

namespace Go.Proofs.Ytfnfbbmegdkhjaa
open Go.RowKit
set_option maxRecDepth 100000
theorem tfree_p (n : Int) : PCalls Try.prog 75 [.d (.v (.int .i64 n))] [] fun p s => p = aggD (Tm.mk 8 n []) ∧ s = [] := by
  have hc := Lib.hid (tnode_p 8 n [])
  simp only [aggD, Jk, List.map_cons, List.map_nil, Ju, Jv, Jw] at hc ⊢
  refine PCalls.enter Try.func75 rfl Try.ntmps75 (by simp) ?_
  simp only [argsF]
  refine go_ ?_
  refine Jd ?_
  intro i0 hi0
  refine go_ ?_
  refine Jb (hc.out) ?_
  refine go_ ?_
  refine Rc ?_
  refine go_ ?_
  refine Jl (by simp) (by simp only [Try.results75]; rfl) (by simp [resP, St.box?, PF.get, Jm, TyK.agg, *]; rfl) (List.nil_sublist _) ?_
  exact ⟨by simp [tupP, PV.norm2, PV.norm1, PV.norm0], rfl⟩
set_option maxHeartbeats 8000000 in
theorem fnumbers_p (l : List Va) (hl : l.length ≤ 100000) : PCalls Try.prog 26 [.d (.sl (l.map encD))] [] fun p s => p = .d (.sl ((l.map Va.n).map encD)) ∧ s = [] := by
  obtain ⟨R, hR⟩ : ∃ R, R = l.map Va.n := ⟨_, rfl⟩
  rw [← hR]
  have HR := Lib.hid hR
  clear hR
  refine PCalls.enter Try.func26 rfl Try.ntmps26 (by simp) ?_
  simp only [argsF]
  refine go_ ?_
  refine PW_own 3 3 1 (by decide) (by simp [PF.get] <;> rfl) fun g hg => ?_
  refine PW_loop (ι := List Int × Nat) (fun y => y.2 ≤ l.length ∧ Hid (y.1 = (l.take y.2).map Va.n)) (fun y => [(3, .own g (y.1.map encD)), (6, .d (.sl (l.map encD))), (7, .d (.v (.int .i64 l.length))), (8, .d (.v (.int .i64 (y.2 : Int))))]) (fun y => [.tok g 3 1 y.1.length]) (fun y => l.length - y.2) ([], 0) ⟨Nat.zero_le _, rfl⟩ ?_ ?_ ?_
  · repeat (first | exact Js _ | refine Jr (by simp [PF.get]; rfl) (by first | rfl | (simp [*]; done) | fail) ?_)
  · repeat (first | exact List.Sublist.refl _ | exact List.nil_sublist _ | refine List.Sublist.cons_cons _ ?_ | refine List.Sublist.cons _ ?_)
  · rintro ⟨m, j⟩ ⟨hj, hm⟩
    simp only at hj hm ⊢
    by_cases hlt : j < l.length
    · have hx := get_enc hlt
      have hc : (j : Int) < l.length := by omega
      have hn : (0 : Int) ≤ j := by omega
      have hin := wr64 (n := (j : Int) + 1) (by omega) (by omega)
      have hM : Hid (m ++ [l[j].n] = (l.take (j + 1)).map Va.n) := by show _ = _; rw [List.take_succ_eq_append_getElem hlt, List.map_append, show m = _ from hm.out]; rfl
      have hml : m.length ≤ 100000 := by rw [show m = _ from hm.out, List.length_map, List.length_take]; omega
      clear hm
      refine go_ ?_
      refine Jd ?_
      intro i2 hi2
      try simp only [Rh, Rg, Rf, Ja] at hi2
      refine go_ ?_
      refine Rc ?_
      refine go_ ?_
      refine POps_bs_a ?_
      refine go_ ?_
      refine POps_app_a (m.length + 1) ?_ ?_ ?_ ?_
      · simp
      · exact rows_of (α := Int) rfl
      · exact rows_one rfl
      refine go_ ?_
      refine ⟨(m ++ [l[j].n], j + 1), ⟨hlt, hM⟩, by simp only; omega, ?_, ?_⟩
      · repeat (first | exact Js _ | refine Jr (by simp [PF.get]; rfl) (by first | rfl | (simp [Je]; done) | fail) ?_)
      · simp only [List.length_append, List.length_singleton]
        repeat (first | exact List.Sublist.refl _ | exact List.nil_sublist _ | refine List.Sublist.cons_cons _ ?_ | refine List.Sublist.cons _ ?_)
    · have hc : ¬ (j : Int) < l.length := by omega
      have hf : Hid (m = R) := by show _ = _; rw [show m = _ from hm.out, List.take_of_length_le (by omega), show R = _ from HR.out]
      clear hm
      refine go_ ?_
      refine Jl (by simp) (by simp only [Try.results26]; rfl) (by simp [resP, St.box?, PF.get, Jm, TyK.agg, *]; rfl) (List.nil_sublist _) ?_
      exact ⟨by rw [hf.out]; rfl, rfl⟩
set_option maxHeartbeats 8000000 in
theorem rfnumbers_p (l : List Va) (hl : l.length ≤ 100000) : PCalls Try.prog 27 [.d (.sl (l.map encD))] [] fun p s => p = .d (.sl ((l.map Va.n).map encD)) ∧ s = [] := by
  obtain ⟨R, hR⟩ : ∃ R, R = l.map Va.n := ⟨_, rfl⟩
  rw [← hR]
  have HR := Lib.hid hR
  clear hR
  refine PCalls.enter Try.func27 rfl Try.ntmps27 (by simp) ?_
  simp only [argsF]
  refine go_ ?_
  refine POps_bs0 ?_ (by decide) (by first | (simp [nev, nevA, nevB, Jo, PF.eval, PF.get, PF.wants, cPV, cCell, PV.rows, evBin, evUn, Jp, evLen, loadA, Jm, TyK.agg, partA, St.box?, St.tok?, St.setBox, St.setTok, fillO, spl, PV.ps, PV.one, Jn, aggD, slD, Jg, Jj, Jh, Ji, Jf, Je, *]; done) | fail) (by simp; rfl) (by rfl) (by simp; rfl) (by rfl) (by decide)
  intro g hg
  refine go_ ?_
  refine PW_loop (ι := List Int × Nat) (fun y => y.2 ≤ l.length ∧ Hid (y.1 = (l.take y.2).map Va.n)) (fun y => [(0, .d (.sl (l.map encD))), (3, .own g (y.1.map encD)), (4, .d (.v (.int .i64 (y.2 : Int))))]) (fun y => [.tok g 3 1 y.1.length]) (fun y => l.length - y.2) ([], 0) ⟨Nat.zero_le _, rfl⟩ ?_ ?_ ?_
  · repeat (first | exact Js _ | refine Jr (by simp [PF.get]; rfl) (by first | rfl | (simp [*]; done) | fail) ?_)
  · repeat (first | exact List.Sublist.refl _ | exact List.nil_sublist _ | refine List.Sublist.cons_cons _ ?_ | refine List.Sublist.cons _ ?_)
  · rintro ⟨m, j⟩ ⟨hj, hm⟩
    simp only at hj hm ⊢
    by_cases hlt : j < l.length
    · have hx := get_enc hlt
      have hc : (j : Int) < l.length := by omega
      have hn : (0 : Int) ≤ j := by omega
      have hin := wr64 (n := (j : Int) + 1) (by omega) (by omega)
      have hM : Hid (m ++ [l[j].n] = (l.take (j + 1)).map Va.n) := by show _ = _; rw [List.take_succ_eq_append_getElem hlt, List.map_append, show m = _ from hm.out]; rfl
      have hml : m.length ≤ 100000 := by rw [show m = _ from hm.out, List.length_map, List.length_take]; omega
      clear hm
      refine go_ ?_
      refine POps_bs_a ?_
      refine go_ ?_
      refine POps_app_a (m.length + 1) ?_ ?_ ?_ ?_
      · simp
      · exact rows_of (α := Int) rfl
      · exact rows_one rfl
      refine go_ ?_
      refine ⟨(m ++ [l[j].n], j + 1), ⟨hlt, hM⟩, by simp only; omega, ?_, ?_⟩
      · repeat (first | exact Js _ | refine Jr (by simp [PF.get]; rfl) (by first | rfl | (simp [Je]; done) | fail) ?_)
      · simp only [List.length_append, List.length_singleton]
        repeat (first | exact List.Sublist.refl _ | exact List.nil_sublist _ | refine List.Sublist.cons_cons _ ?_ | refine List.Sublist.cons _ ?_)
    · have hc : ¬ (j : Int) < l.length := by omega
      have hf : Hid (m = R) := by show _ = _; rw [show m = _ from hm.out, List.take_of_length_le (by omega), show R = _ from HR.out]
      clear hm
      refine go_ ?_
      refine Jl (by simp) (by simp only [Try.results27]; rfl) (by simp [resP, St.box?, PF.get, Jm, TyK.agg, *]; rfl) (List.nil_sublist _) ?_
      exact ⟨by rw [hf.out]; rfl, rfl⟩
set_option maxHeartbeats 8000000 in
theorem rftypes_p (l : List Va) (hl : l.length ≤ 100000) : PCalls Try.prog 60 [.d (.sl (l.map encD))] [] fun p s => p = .d (.sl ((l.map Va.ty).map encD)) ∧ s = [] := by
  obtain ⟨R, hR⟩ : ∃ R, R = l.map Va.ty := ⟨_, rfl⟩
  rw [← hR]
  have HR := Lib.hid hR
  clear hR
  refine PCalls.enter Try.func60 rfl Try.ntmps60 (by simp) ?_
  simp only [argsF]
  refine go_ ?_
  refine POps_bs0 ?_ (by decide) (by first | (simp [nev, nevA, nevB, Jo, PF.eval, PF.get, PF.wants, cPV, cCell, PV.rows, evBin, evUn, Jp, evLen, loadA, Jm, TyK.agg, partA, St.box?, St.tok?, St.setBox, St.setTok, fillO, spl, PV.ps, PV.one, Jn, aggD, slD, Jg, Jj, Jh, Ji, Jf, Je, *]; done) | fail) (by simp; rfl) (by rfl) (by simp; rfl) (by rfl) (by decide)
  intro g hg
  refine go_ ?_
  refine PW_loop (ι := List Tm × Nat) (fun y => y.2 ≤ l.length ∧ Hid (y.1 = (l.take y.2).map Va.ty)) (fun y => [(0, .d (.sl (l.map encD))), (3, .own g (y.1.map encD)), (4, .d (.v (.int .i64 (y.2 : Int))))]) (fun y => [.tok g 28 3 y.1.length]) (fun y => l.length - y.2) ([], 0) ⟨Nat.zero_le _, rfl⟩ ?_ ?_ ?_
  · repeat (first | exact Js _ | refine Jr (by simp [PF.get]; rfl) (by first | rfl | (simp [*]; done) | fail) ?_)
  · repeat (first | exact List.Sublist.refl _ | exact List.nil_sublist _ | refine List.Sublist.cons_cons _ ?_ | refine List.Sublist.cons _ ?_)
  · rintro ⟨m, j⟩ ⟨hj, hm⟩
    simp only at hj hm ⊢
    by_cases hlt : j < l.length
    · have hx := get_enc hlt
      have hc : (j : Int) < l.length := by omega
      have hn : (0 : Int) ≤ j := by omega
      have hin := wr64 (n := (j : Int) + 1) (by omega) (by omega)
      have hM : Hid (m ++ [l[j].ty] = (l.take (j + 1)).map Va.ty) := by show _ = _; rw [List.take_succ_eq_append_getElem hlt, List.map_append, show m = _ from hm.out]; rfl
      have hml : m.length ≤ 100000 := by rw [show m = _ from hm.out, List.length_map, List.length_take]; omega
      clear hm
      refine go_ ?_
      refine POps_bs_a ?_
      refine go_ ?_
      refine POps_app_a (m.length + 1) ?_ ?_ ?_ ?_
      · simp
      · exact rows_of (α := Tm) rfl
      · exact rows_one rfl
      refine go_ ?_
      refine ⟨(m ++ [l[j].ty], j + 1), ⟨hlt, hM⟩, by simp only; omega, ?_, ?_⟩
      · repeat (first | exact Js _ | refine Jr (by simp [PF.get]; rfl) (by first | rfl | (simp [Jk]; done) | fail) ?_)
      · simp only [List.length_append, List.length_singleton]
        repeat (first | exact List.Sublist.refl _ | exact List.nil_sublist _ | refine List.Sublist.cons_cons _ ?_ | refine List.Sublist.cons _ ?_)
    · have hc : ¬ (j : Int) < l.length := by omega
      have hf : Hid (m = R) := by show _ = _; rw [show m = _ from hm.out, List.take_of_length_le (by omega), show R = _ from HR.out]
      clear hm
      refine go_ ?_
      refine Jl (by simp) (by simp only [Try.results60]; rfl) (by simp [resP, St.box?, PF.get, Jm, TyK.agg, *]; rfl) (List.nil_sublist _) ?_
      exact ⟨by rw [hf.out]; rfl, rfl⟩
/-- a named variable as a term -/
def frN (n : Int) : Tm := .mk 8 n []
set_option maxHeartbeats 8000000 in
theorem fterms_p (l : List Va) (hl : l.length ≤ 100000) : PCalls Try.prog 29 [.d (.sl (l.map encD))] [] fun p s => p = .d (.sl ((l.map (fun v => frN v.n)).map encD)) ∧ s = [] := by
  obtain ⟨R, hR⟩ : ∃ R, R = l.map (fun v => frN v.n) := ⟨_, rfl⟩
  rw [← hR]
  have HR := Lib.hid hR
  clear hR
  refine PCalls.enter Try.func29 rfl Try.ntmps29 (by simp) ?_
  simp only [argsF]
  refine go_ ?_
  refine PW_own 3 28 3 (by decide) (by simp [PF.get] <;> rfl) fun g hg => ?_
  refine PW_loop (ι := List Tm × Nat) (fun y => y.2 ≤ l.length ∧ Hid (y.1 = (l.take y.2).map (fun v => frN v.n))) (fun y => [(3, .own g (y.1.map encD)), (6, .d (.sl (l.map encD))), (7, .d (.v (.int .i64 l.length))), (8, .d (.v (.int .i64 (y.2 : Int))))]) (fun y => [.tok g 28 3 y.1.length]) (fun y => l.length - y.2) ([], 0) ⟨Nat.zero_le _, rfl⟩ ?_ ?_ ?_
  · repeat (first | exact Js _ | refine Jr (by simp [PF.get]; rfl) (by first | rfl | (simp [*]; done) | fail) ?_)
  · repeat (first | exact List.Sublist.refl _ | exact List.nil_sublist _ | refine List.Sublist.cons_cons _ ?_ | refine List.Sublist.cons _ ?_)
  · rintro ⟨m, j⟩ ⟨hj, hm⟩
    simp only at hj hm ⊢
    by_cases hlt : j < l.length
    · have hx := get_enc hlt
      have hc : (j : Int) < l.length := by omega
      have hn : (0 : Int) ≤ j := by omega
      have hin := wr64 (n := (j : Int) + 1) (by omega) (by omega)
      have hM : Hid (m ++ [frN l[j].n] = (l.take (j + 1)).map (fun v => frN v.n)) := by show _ = _; rw [List.take_succ_eq_append_getElem hlt, List.map_append, show m = _ from hm.out]; rfl
      have hml : m.length ≤ 100000 := by rw [show m = _ from hm.out, List.length_map, List.length_take]; omega
      have hc1 := Lib.hid (tfree_p l[j].n)
      simp only [aggD, Jk, List.map_cons, List.map_nil, Ju, Jv, Jw] at hc1
      clear hm
      refine go_ ?_
      refine Jd ?_
      intro i2 hi2
      try simp only [Rh, Rg, Rf, Ja] at hi2
      refine go_ ?_
      refine Rc ?_
      refine go_ ?_
      refine Jb (hc1.out) ?_
      refine go_ ?_
      refine POps_bs_a ?_
      refine go_ ?_
      refine POps_app_a (m.length + 1) ?_ ?_ ?_ ?_
      · simp
      · exact rows_of (α := Tm) rfl
      · exact rows_one rfl
      refine go_ ?_
      refine ⟨(m ++ [frN l[j].n], j + 1), ⟨hlt, hM⟩, by simp only; omega, ?_, ?_⟩
      · repeat (first | exact Js _ | refine Jr (by simp [PF.get]; rfl) (by first | rfl | (simp [Jk, frN, Ju, Jv, Jw]; done) | fail) ?_)
      · simp only [List.length_append, List.length_singleton]
        repeat (first | exact List.Sublist.refl _ | exact List.nil_sublist _ | refine List.Sublist.cons_cons _ ?_ | refine List.Sublist.cons _ ?_)
    · have hc : ¬ (j : Int) < l.length := by omega
      have hf : Hid (m = R) := by show _ = _; rw [show m = _ from hm.out, List.take_of_length_le (by omega), show R = _ from HR.out]
      clear hm
      refine go_ ?_
      refine Jl (by simp) (by simp only [Try.results29]; rfl) (by simp [resP, St.box?, PF.get, Jm, TyK.agg, *]; rfl) (List.nil_sublist _) ?_
      exact ⟨by rw [hf.out]; rfl, rfl⟩
set_option maxHeartbeats 8000000 in
theorem rfrees13_p (l : List Int) (hl : l.length ≤ 100000) : PCalls Try.prog 30 [.d (.sl (l.map encD))] [] fun p s => p = .d (.sl ((l.map frN).map encD)) ∧ s = [] := by
  obtain ⟨R, hR⟩ : ∃ R, R = l.map frN := ⟨_, rfl⟩
  rw [← hR]
  have HR := Lib.hid hR
  clear hR
  refine PCalls.enter Try.func30 rfl Try.ntmps30 (by simp) ?_
  simp only [argsF]
  refine go_ ?_
  refine POps_bs0 ?_ (by decide) (by first | (simp [nev, nevA, nevB, Jo, PF.eval, PF.get, PF.wants, cPV, cCell, PV.rows, evBin, evUn, Jp, evLen, loadA, Jm, TyK.agg, partA, St.box?, St.tok?, St.setBox, St.setTok, fillO, spl, PV.ps, PV.one, Jn, aggD, slD, Jg, Jj, Jh, Ji, Jf, Je, *]; done) | fail) (by simp; rfl) (by rfl) (by simp; rfl) (by rfl) (by decide)
  intro g hg
  refine go_ ?_
  refine PW_loop (ι := List Tm × Nat) (fun y => y.2 ≤ l.length ∧ Hid (y.1 = (l.take y.2).map frN)) (fun y => [(0, .d (.sl (l.map encD))), (3, .own g (y.1.map encD)), (4, .d (.v (.int .i64 (y.2 : Int))))]) (fun y => [.tok g 28 3 y.1.length]) (fun y => l.length - y.2) ([], 0) ⟨Nat.zero_le _, rfl⟩ ?_ ?_ ?_
  · repeat (first | exact Js _ | refine Jr (by simp [PF.get]; rfl) (by first | rfl | (simp [*]; done) | fail) ?_)
  · repeat (first | exact List.Sublist.refl _ | exact List.nil_sublist _ | refine List.Sublist.cons_cons _ ?_ | refine List.Sublist.cons _ ?_)
  · rintro ⟨m, j⟩ ⟨hj, hm⟩
    simp only at hj hm ⊢
    by_cases hlt : j < l.length
    · have hx := get_enc hlt
      have hc : (j : Int) < l.length := by omega
      have hn : (0 : Int) ≤ j := by omega
      have hin := wr64 (n := (j : Int) + 1) (by omega) (by omega)
      have hM : Hid (m ++ [frN l[j]] = (l.take (j + 1)).map frN) := by show _ = _; rw [List.take_succ_eq_append_getElem hlt, List.map_append, show m = _ from hm.out]; rfl
      have hml : m.length ≤ 100000 := by rw [show m = _ from hm.out, List.length_map, List.length_take]; omega
      have hc1 := Lib.hid (rleaf_p 8 l[j])
      simp only [aggD, Jk, List.map_cons, List.map_nil, Ju, Jv, Jw] at hc1
      clear hm
      refine go_ ?_
      refine Jb (hc1.out) ?_
      refine go_ ?_
      refine POps_bs_a ?_
      refine go_ ?_
      refine POps_app_a (m.length + 1) ?_ ?_ ?_ ?_
      · simp
      · exact rows_of (α := Tm) rfl
      · exact rows_one rfl
      refine go_ ?_
      refine ⟨(m ++ [frN l[j]], j + 1), ⟨hlt, hM⟩, by simp only; omega, ?_, ?_⟩
      · repeat (first | exact Js _ | refine Jr (by simp [PF.get]; rfl) (by first | rfl | (simp [Jk, frN, Ju, Jv, Jw]; done) | fail) ?_)
      · simp only [List.length_append, List.length_singleton]
        repeat (first | exact List.Sublist.refl _ | exact List.nil_sublist _ | refine List.Sublist.cons_cons _ ?_ | refine List.Sublist.cons _ ?_)
    · have hc : ¬ (j : Int) < l.length := by omega
      have hf : Hid (m = R) := by show _ = _; rw [show m = _ from hm.out, List.take_of_length_le (by omega), show R = _ from HR.out]
      clear hm
      refine go_ ?_
      refine Jl (by simp) (by simp only [Try.results30]; rfl) (by simp [resP, St.box?, PF.get, Jm, TyK.agg, *]; rfl) (List.nil_sublist _) ?_
      exact ⟨by rw [hf.out]; rfl, rfl⟩
end Go.Proofs.Ytfnfbbmegdkhjaa

namespace Go.Proofs.Ytfnfbbmegdkhjaa
open Go.RowKit Go.WideMaps
set_option maxRecDepth 100000
/-- are two contexts the same: numbers, and types as a function says -/
def sameV (eq : Tm → Tm → Bool) : List Va → List Va → Bool
  | [], [] => true
  | x :: a, y :: b => (x.n == y.n) && eq x.ty y.ty && sameV eq a b
  | _, _ => false
theorem sameV_len {eq : Tm → Tm → Bool} : ∀ {a b : List Va}, sameV eq a b = true → a.length = b.length := by
  intro a
  induction a with
  | nil => intro b h; cases b with
    | nil => rfl
    | cons y b => cases h
  | cons x a ih => intro b h; cases b with
    | nil => cases h
    | cons y b =>
      simp only [sameV, Bool.and_eq_true] at h
      rw [List.length_cons, List.length_cons, ih h.2]
theorem sameV_step {eq : Tm → Tm → Bool} {a b : List Va} {j : Nat} (h1 : j < a.length) (h2 : j < b.length) : sameV eq (a.drop j) (b.drop j) = ((a[j].n == b[j].n) && eq a[j].ty b[j].ty && sameV eq (a.drop (j + 1)) (b.drop (j + 1))) := by
  rw [List.drop_eq_getElem_cons h1, List.drop_eq_getElem_cons h2]; rfl
theorem same1_p (x y : Va) : PCalls Try.prog 63 [aggD x, aggD y] [] fun p s => p = .d (.v (.bool ((x.n == y.n) && csameB x.ty y.ty))) ∧ s = [] := by
  have hc := Lib.hid (tSame_p x.ty y.ty)
  simp only [aggD, Jk, encD_va, List.map_cons, List.map_nil] at hc ⊢
  generalize csameB x.ty y.ty = q at *
  cases hq : (x.n == y.n) with
  | true =>
    rw [Bool.true_and]
    refine PCalls.enter Try.func63 rfl Try.ntmps63 (by simp) ?_
    simp only [argsF]
    refine go_ ?_
    refine Jc ?_
    intro i0 hi0
    try simp only [Rh, Rg, Rf, Ja] at hi0
    refine go_ ?_
    refine Jc ?_
    intro i1 hi1
    try simp only [Rh, Rg, Rf, Ja] at hi1
    refine go_ ?_
    refine Jq (hc.out) ?_
    refine go_ ?_
    refine Jl (by simp) (by simp only [Try.results63]; rfl) (by simp [resP, St.box?, PF.get, Jm, TyK.agg, *]; rfl) (List.nil_sublist _) ?_
    exact ⟨by simp [tupP, PV.norm2, PV.norm1, PV.norm0], rfl⟩
  | false =>
    rw [Bool.false_and]
    refine PCalls.enter Try.func63 rfl Try.ntmps63 (by simp) ?_
    simp only [argsF]
    refine go_ ?_
    refine Jc ?_
    intro i0 hi0
    try simp only [Rh, Rg, Rf, Ja] at hi0
    refine go_ ?_
    refine Jc ?_
    intro i1 hi1
    try simp only [Rh, Rg, Rf, Ja] at hi1
    refine go_ ?_
    refine Jl (by simp) (by simp only [Try.results63]; rfl) (by simp [resP, St.box?, PF.get, Jm, TyK.agg, *]; rfl) (List.nil_sublist _) ?_
    exact ⟨rfl, rfl⟩
set_option maxHeartbeats 16000000 in
theorem eqf_p (a b : List Va) (f : FuncId) (eq : Tm → Tm → Bool) (hca : callable Try.prog f = true) (h : ∀ x y : Va, PCalls Try.prog f [aggD x, aggD y] [] fun p s => p = .d (.v (.bool ((x.n == y.n) && eq x.ty y.ty))) ∧ s = []) :
    PCalls Try.prog 62 [.d (.sl (a.map encD)), .d (.sl (b.map encD)), .fn (.func f) [] []] [] fun p s => p = .d (.v (.bool (sameV eq a b))) ∧ s = [] := by
  have HC := Lib.hid h
  have HCA := Lib.hid hca
  clear h hca
  by_cases hl : a.length = b.length
  · obtain ⟨R, hR⟩ : ∃ R, R = sameV eq a b := ⟨_, rfl⟩
    rw [← hR]
    have HR : Hid (R = sameV eq (a.drop 0) (b.drop 0)) := hR
    have hne : ((a.length : Int) != b.length) = false := by rw [hl]; simp
    have HL := Lib.hid hl
    clear hR hl
    refine PCalls.enter Try.func62 rfl Try.ntmps62 (by simp) ?_
    simp only [argsF]
    refine PW_slen (t := 0) (rows := a.map encD) (by simp [PF.get] <;> rfl) rfl fun hml => ?_
    rw [List.length_map] at hml
    unfold maxLen at hml
    refine go_ ?_
    refine PW_loop (ι := Nat) (fun y => y ≤ a.length ∧ Hid (R = sameV eq (a.drop y) (b.drop y))) (fun y => [(0, .d (.sl (a.map encD))), (1, .d (.sl (b.map encD))), (2, .fn (.func f) [] []), (15, .d (.sl (a.map encD))), (16, .d (.v (.int .i64 a.length))), (17, .d (.v (.int .i64 (y : Int))))]) (fun _ => []) (fun y => a.length - y) 0 ⟨Nat.zero_le _, HR.out⟩ ?_ ?_ ?_
    · repeat (first | exact Js _ | refine Jr (by simp [PF.get]; rfl) (by first | rfl | (simp [*]; done) | fail) ?_)
    · repeat (first | exact List.Sublist.refl _ | exact List.nil_sublist _ | refine List.Sublist.cons_cons _ ?_ | refine List.Sublist.cons _ ?_)
    · rintro j ⟨hj, hR⟩
      clear HR
      by_cases hlt : j < a.length
      · have hlb : j < b.length := by have := HL.out; omega
        have hx := get_enc hlt
        have hy := get_enc hlb
        have hc : (j : Int) < a.length := by omega
        have hc2 : (j : Int) < b.length := by omega
        have hn : (0 : Int) ≤ j := by omega
        have hin := wr64 (n := (j : Int) + 1) (by omega) (by omega)
        have hR2 := Lib.hid (hR.out.trans (sameV_step hlt hlb))
        have hc1 := Lib.hid (HC.out a[j] b[j])
        simp only [aggD, encD_va, List.map_cons, List.map_nil] at hc1
        clear hR
        generalize ((a[j].n == b[j].n) && eq a[j].ty b[j].ty) = q at *
        refine go_ ?_
        refine Jd ?_
        intro i2 hi2
        try simp only [Rh, Rg, Rf, Ja] at hi2
        refine go_ ?_
        refine Rc ?_
        refine go_ ?_
        refine Jd ?_
        intro i3 hi3
        try simp only [Rh, Rg, Rf, Ja] at hi3
        refine go_ ?_
        refine Rc ?_
        refine go_ ?_
        refine POps_callC 0 0 hc1.out ?_ HCA.out
        rintro p s ⟨rfl, rfl⟩
        simp only [List.cons_append, List.nil_append, List.append_nil, Rh, Rg, Rf]
        cases q with
        | false =>
          have hf : Hid (R = false) := by show _ = _; rw [show R = _ from hR2.out]; rfl
          clear hR2
          refine go_ ?_
          refine Jl (by simp) (by simp only [Try.results62]; rfl) (by simp [resP, St.box?, PF.get, Jm, TyK.agg, *]; rfl) (List.nil_sublist _) ?_
          exact ⟨by rw [hf.out]; rfl, rfl⟩
        | true =>
          have hR3 : Hid (R = sameV eq (a.drop (j + 1)) (b.drop (j + 1))) := by show _ = _; rw [show R = _ from hR2.out]; rfl
          clear hR2
          refine go_ ?_
          exact ⟨j + 1, ⟨hlt, hR3⟩, by omega, by repeat (first | exact Js _ | refine Jr (by simp [PF.get]; rfl) (by first | rfl | (simp [*]; done) | fail) ?_), by repeat (first | exact List.Sublist.refl _ | exact List.nil_sublist _ | refine List.Sublist.cons_cons _ ?_ | refine List.Sublist.cons _ ?_)⟩
      · have hc : ¬ (j : Int) < a.length := by omega
        have hf : Hid (R = true) := by rw [show R = _ from hR.out, List.drop_of_length_le (by omega), List.drop_of_length_le (by have := HL.out; omega)]; rfl
        refine go_ ?_
        refine Jl (by simp) (by simp only [Try.results62]; rfl) (by simp [resP, St.box?, PF.get, Jm, TyK.agg, *]; rfl) (List.nil_sublist _) ?_
        exact ⟨by rw [hf.out]; rfl, rfl⟩
  · have hf : sameV eq a b = false := by
      cases h : sameV eq a b with
      | false => rfl
      | true => exact absurd (sameV_len h) hl
    have hne : ((a.length : Int) != b.length) = true := by rw [bne_iff_ne]; omega
    rw [hf]
    clear hf hl
    refine PCalls.enter Try.func62 rfl Try.ntmps62 (by simp) ?_
    simp only [argsF]
    refine go_ ?_
    refine Jl (by simp) (by simp only [Try.results62]; rfl) (by simp [resP, St.box?, PF.get, Jm, TyK.agg, *]; rfl) (List.nil_sublist _) ?_
    exact ⟨rfl, rfl⟩
theorem fsame_p (a b : List Va) : PCalls Try.prog 17 [.d (.sl (a.map encD)), .d (.sl (b.map encD))] [] fun p s => p = .d (.v (.bool (sameV csameB a b))) ∧ s = [] := by
  have hc := Lib.hid (eqf_p a b 63 csameB rfl same1_p)
  generalize sameV csameB a b = q at *
  refine PCalls.enter Try.func17 rfl Try.ntmps17 (by simp) ?_
  simp only [argsF]
  refine go_ ?_
  refine Jb (hc.out) ?_
  refine go_ ?_
  refine Jl (by simp) (by simp only [Try.results17]; rfl) (by simp [resP, St.box?, PF.get, Jm, TyK.agg, *]; rfl) (List.nil_sublist _) ?_
  exact ⟨by simp [tupP, PV.norm2, PV.norm1, PV.norm0], rfl⟩
set_option maxHeartbeats 16000000 in
theorem rsame22_p (a b : List Va) : PCalls Try.prog 18 [.d (.sl (a.map encD)), .d (.sl (b.map encD))] [] fun p s => p = .d (.v (.bool (sameV ceqT a b))) ∧ s = [] := by
  by_cases hl : a.length = b.length
  · obtain ⟨R, hR⟩ : ∃ R, R = sameV ceqT a b := ⟨_, rfl⟩
    rw [← hR]
    have HR : Hid (R = sameV ceqT (a.drop 0) (b.drop 0)) := hR
    have hne : ((a.length : Int) != b.length) = false := by rw [hl]; simp
    have HL := Lib.hid hl
    clear hR hl
    refine PCalls.enter Try.func18 rfl Try.ntmps18 (by simp) ?_
    simp only [argsF]
    refine PW_slen (t := 0) (rows := a.map encD) (by simp [PF.get] <;> rfl) rfl fun hml => ?_
    rw [List.length_map] at hml
    unfold maxLen at hml
    refine go_ ?_
    refine PW_loop (ι := Nat) (fun y => y ≤ a.length ∧ Hid (R = sameV ceqT (a.drop y) (b.drop y))) (fun y => [(0, .d (.sl (a.map encD))), (1, .d (.sl (b.map encD))), (5, .d (.v (.int .i64 (y : Int))))]) (fun _ => []) (fun y => a.length - y) 0 ⟨Nat.zero_le _, HR.out⟩ ?_ ?_ ?_
    · repeat (first | exact Js _ | refine Jr (by simp [PF.get]; rfl) (by first | rfl | (simp [*]; done) | fail) ?_)
    · repeat (first | exact List.Sublist.refl _ | exact List.nil_sublist _ | refine List.Sublist.cons_cons _ ?_ | refine List.Sublist.cons _ ?_)
    · rintro j ⟨hj, hR⟩
      clear HR
      by_cases hlt : j < a.length
      · have hlb : j < b.length := by have := HL.out; omega
        have hx := get_enc hlt
        have hy := get_enc hlb
        have hc : (j : Int) < a.length := by omega
        have hc2 : (j : Int) < b.length := by omega
        have hn : (0 : Int) ≤ j := by omega
        have hin := wr64 (n := (j : Int) + 1) (by omega) (by omega)
        have hR2 := Lib.hid (hR.out.trans (sameV_step hlt hlb))
        have hc1 := Lib.hid (requal_p a[j].ty b[j].ty)
        simp only [aggD, Jk, List.map_cons, List.map_nil] at hc1
        clear hR
        generalize ceqT a[j].ty b[j].ty = q at *
        cases hq : (a[j].n == b[j].n) with
        | false =>
          have hqn : (a[j].n != b[j].n) = true := by rw [bne, hq]; rfl
          have hf : Hid (R = false) := by show _ = _; rw [show R = _ from hR2.out, hq]; rfl
          clear hR2
          refine go_ ?_
          refine PW_drawn [(0, .a), (1, .a), (2, .a), (3, .a), (4, .a), (5, .a), (6, .a), (7, .a), (8, .a), (9, .a), (10, .a), (11, .a), (12, .a), (13, .a), (14, .a), (15, .a), (16, .a), (17, .a), (18, .a), (19, .a), (20, .a), (21, .a), (22, .a), (23, .a), (24, .a)] (by kernel_rfl) (by rfl) (by kernel_rfl) ?_
          refine go_ ?_
          refine Jl (by simp) (by simp only [Try.results18]; rfl) (by simp [resP, St.box?, PF.get, Jm, TyK.agg, *]; rfl) (List.nil_sublist _) ?_
          exact ⟨by rw [hf.out]; rfl, rfl⟩
        | true =>
          have hqn : (a[j].n != b[j].n) = false := by rw [bne, hq]; rfl
          cases q with
          | false =>
            have hf : Hid (R = false) := by show _ = _; rw [show R = _ from hR2.out, hq]; rfl
            clear hR2
            refine go_ ?_
            refine PW_drawn [(0, .a), (1, .a), (2, .a), (3, .a), (4, .a), (5, .a), (6, .a), (7, .a), (8, .a), (9, .a), (10, .a), (11, .a), (12, .a), (13, .a), (14, .a), (15, .a), (16, .a), (17, .a), (18, .a), (19, .a), (20, .a), (21, .a), (22, .a), (23, .a), (24, .a)] (by kernel_rfl) (by rfl) (by kernel_rfl) ?_
            refine go_ ?_
            refine POrd_call_b (hc1.out) ?_
            refine go_ ?_
            refine Jl (by simp) (by simp only [Try.results18]; rfl) (by simp [resP, St.box?, PF.get, Jm, TyK.agg, *]; rfl) (List.nil_sublist _) ?_
            exact ⟨by rw [hf.out]; rfl, rfl⟩
          | true =>
            have hR3 : Hid (R = sameV ceqT (a.drop (j + 1)) (b.drop (j + 1))) := by show _ = _; rw [show R = _ from hR2.out, hq]; rfl
            clear hR2
            refine go_ ?_
            refine PW_drawn [(0, .a), (1, .a), (2, .a), (3, .a), (4, .a), (5, .a), (6, .a), (7, .a), (8, .a), (9, .a), (10, .a), (11, .a), (12, .a), (13, .a), (14, .a), (15, .a), (16, .a), (17, .a), (18, .a), (19, .a), (20, .a), (21, .a), (22, .a), (23, .a), (24, .a)] (by kernel_rfl) (by rfl) (by kernel_rfl) ?_
            refine go_ ?_
            refine POrd_call_b (hc1.out) ?_
            refine go_ ?_
            exact ⟨j + 1, ⟨hlt, hR3⟩, by omega, by repeat (first | exact Js _ | refine Jr (by simp [PF.get]; rfl) (by first | rfl | (simp [*]; done) | fail) ?_), by repeat (first | exact List.Sublist.refl _ | exact List.nil_sublist _ | refine List.Sublist.cons_cons _ ?_ | refine List.Sublist.cons _ ?_)⟩
      · have hc : ¬ (j : Int) < a.length := by omega
        have hf : Hid (R = true) := by rw [show R = _ from hR.out, List.drop_of_length_le (by omega), List.drop_of_length_le (by have := HL.out; omega)]; rfl
        refine go_ ?_
        refine Jl (by simp) (by simp only [Try.results18]; rfl) (by simp [resP, St.box?, PF.get, Jm, TyK.agg, *]; rfl) (List.nil_sublist _) ?_
        exact ⟨by rw [hf.out]; rfl, rfl⟩
  · have hf : sameV ceqT a b = false := by
      cases h : sameV ceqT a b with
      | false => rfl
      | true => exact absurd (sameV_len h) hl
    have hne : ((a.length : Int) != b.length) = true := by rw [bne_iff_ne]; omega
    rw [hf]
    clear hf hl
    refine PCalls.enter Try.func18 rfl Try.ntmps18 (by simp) ?_
    simp only [argsF]
    refine go_ ?_
    refine Jl (by simp) (by simp only [Try.results18]; rfl) (by simp [resP, St.box?, PF.get, Jm, TyK.agg, *]; rfl) (List.nil_sublist _) ?_
    exact ⟨rfl, rfl⟩
/-- are all types shaped? -/
def shV (c : List Va) : Bool := c.all fun v => shapedB v.ty
set_option maxHeartbeats 8000000 in
theorem law22shaped_p (c : List Va) : PCalls Try.prog 11 [.d (.sl (c.map encD))] [] fun p s => p = .d (.v (.bool (shV c))) ∧ s = [] := by
  obtain ⟨R, hR⟩ : ∃ R, R = shV c := ⟨_, rfl⟩
  rw [← hR]
  have HR : Hid (R = shV (c.drop 0)) := hR
  clear hR
  refine PCalls.enter Try.func11 rfl Try.ntmps11 (by simp) ?_
  simp only [argsF]
  refine PW_slen (t := 0) (rows := c.map encD) (by simp [PF.get] <;> rfl) rfl fun hml => ?_
  rw [List.length_map] at hml
  unfold maxLen at hml
  refine go_ ?_
  refine PW_loop (ι := Nat) (fun y => y ≤ c.length ∧ Hid (R = shV (c.drop y))) (fun y => [(0, .d (.sl (c.map encD))), (3, .d (.v (.int .i64 (y : Int))))]) (fun _ => []) (fun y => c.length - y) 0 ⟨Nat.zero_le _, HR.out⟩ ?_ ?_ ?_
  · repeat (first | exact Js _ | refine Jr (by simp [PF.get]; rfl) (by first | rfl | (simp [*]; done) | fail) ?_)
  · repeat (first | exact List.Sublist.refl _ | exact List.nil_sublist _ | refine List.Sublist.cons_cons _ ?_ | refine List.Sublist.cons _ ?_)
  · rintro j ⟨hj, hR⟩
    clear HR
    by_cases hlt : j < c.length
    · have hx := get_enc hlt
      have hc : (j : Int) < c.length := by omega
      have hn : (0 : Int) ≤ j := by omega
      have hin := wr64 (n := (j : Int) + 1) (by omega) (by omega)
      have hR2 : Hid (R = (shapedB c[j].ty && shV (c.drop (j + 1)))) := by show _ = _; rw [show R = _ from hR.out, List.drop_eq_getElem_cons hlt]; rfl
      have hc1 := Lib.hid (rshaped_p c[j].ty)
      simp only [aggD, Jk, List.map_cons, List.map_nil] at hc1
      clear hR
      generalize shapedB c[j].ty = q at *
      refine go_ ?_
      refine Jb (hc1.out) ?_
      refine go_ ?_
      cases q with
      | false =>
        have hf : Hid (R = false) := by show _ = _; rw [show R = _ from hR2.out]; rfl
        clear hR2
        refine go_ ?_
        refine Jl (by simp) (by simp only [Try.results11]; rfl) (by simp [resP, St.box?, PF.get, Jm, TyK.agg, *]; rfl) (List.nil_sublist _) ?_
        exact ⟨by rw [hf.out]; rfl, rfl⟩
      | true =>
        have hR3 : Hid (R = shV (c.drop (j + 1))) := by show _ = _; rw [show R = _ from hR2.out]; rfl
        clear hR2
        refine go_ ?_
        exact ⟨j + 1, ⟨hlt, hR3⟩, by omega, by repeat (first | exact Js _ | refine Jr (by simp [PF.get]; rfl) (by first | rfl | (simp [*]; done) | fail) ?_), by repeat (first | exact List.Sublist.refl _ | exact List.nil_sublist _ | refine List.Sublist.cons_cons _ ?_ | refine List.Sublist.cons _ ?_)⟩
    · have hc : ¬ (j : Int) < c.length := by omega
      have hf : Hid (R = true) := by rw [show R = _ from hR.out, List.drop_of_length_le (by omega)]; rfl
      refine go_ ?_
      refine Jl (by simp) (by simp only [Try.results11]; rfl) (by simp [resP, St.box?, PF.get, Jm, TyK.agg, *]; rfl) (List.nil_sublist _) ?_
      exact ⟨by rw [hf.out]; rfl, rfl⟩
end Go.Proofs.Ytfnfbbmegdkhjaa

namespace Go.Proofs.Ytfnfbbmegdkhjaa
open Go.RowKit Go.WideMaps
set_option maxRecDepth 100000
set_option maxHeartbeats 8000000 in
theorem rftypes_o (l : List Va) (hl : l.length ≤ 100000) : PCalls Try.prog 60 [.d (.sl (l.map encD))] [] fun p s => ∃ g, p = .own g ((l.map Va.ty).map encD) ∧ s = [.tok g 28 3 (l.map Va.ty).length] := by
  obtain ⟨R, hR⟩ : ∃ R, R = l.map Va.ty := ⟨_, rfl⟩
  rw [← hR]
  have HR := Lib.hid hR
  clear hR
  refine PCalls.enter Try.func60 rfl Try.ntmps60 (by simp) ?_
  simp only [argsF]
  refine go_ ?_
  refine POps_bs0 ?_ (by decide) (by first | (simp [nev, nevA, nevB, Jo, PF.eval, PF.get, PF.wants, cPV, cCell, PV.rows, evBin, evUn, Jp, evLen, loadA, Jm, TyK.agg, partA, St.box?, St.tok?, St.setBox, St.setTok, fillO, spl, PV.ps, PV.one, Jn, aggD, slD, Jg, Jj, Jh, Ji, Jf, Je, *]; done) | fail) (by simp; rfl) (by rfl) (by simp; rfl) (by rfl) (by decide)
  intro g hg
  refine go_ ?_
  refine PW_loop (ι := List Tm × Nat) (fun y => y.2 ≤ l.length ∧ Hid (y.1 = (l.take y.2).map Va.ty)) (fun y => [(0, .d (.sl (l.map encD))), (3, .own g (y.1.map encD)), (4, .d (.v (.int .i64 (y.2 : Int))))]) (fun y => [.tok g 28 3 y.1.length]) (fun y => l.length - y.2) ([], 0) ⟨Nat.zero_le _, rfl⟩ ?_ ?_ ?_
  · repeat (first | exact Js _ | refine Jr (by simp [PF.get]; rfl) (by first | rfl | (simp [*]; done) | fail) ?_)
  · repeat (first | exact List.Sublist.refl _ | exact List.nil_sublist _ | refine List.Sublist.cons_cons _ ?_ | refine List.Sublist.cons _ ?_)
  · rintro ⟨m, j⟩ ⟨hj, hm⟩
    simp only at hj hm ⊢
    by_cases hlt : j < l.length
    · have hx := get_enc hlt
      have hc : (j : Int) < l.length := by omega
      have hn : (0 : Int) ≤ j := by omega
      have hin := wr64 (n := (j : Int) + 1) (by omega) (by omega)
      have hM : Hid (m ++ [l[j].ty] = (l.take (j + 1)).map Va.ty) := by show _ = _; rw [List.take_succ_eq_append_getElem hlt, List.map_append, show m = _ from hm.out]; rfl
      have hml : m.length ≤ 100000 := by rw [show m = _ from hm.out, List.length_map, List.length_take]; omega
      clear hm
      refine go_ ?_
      refine POps_bs_a ?_
      refine go_ ?_
      refine POps_app_a (m.length + 1) ?_ ?_ ?_ ?_
      · simp
      · exact rows_of (α := Tm) rfl
      · exact rows_one rfl
      refine go_ ?_
      refine ⟨(m ++ [l[j].ty], j + 1), ⟨hlt, hM⟩, by simp only; omega, ?_, ?_⟩
      · repeat (first | exact Js _ | refine Jr (by simp [PF.get]; rfl) (by first | rfl | (simp [Jk]; done) | fail) ?_)
      · simp only [List.length_append, List.length_singleton]
        repeat (first | exact List.Sublist.refl _ | exact List.nil_sublist _ | refine List.Sublist.cons_cons _ ?_ | refine List.Sublist.cons _ ?_)
    · have hc : ¬ (j : Int) < l.length := by omega
      have hf : Hid (m = R) := by show _ = _; rw [show m = _ from hm.out, List.take_of_length_le (by omega), show R = _ from HR.out]
      clear hm
      refine go_ ?_
      refine retP_keep (by simp) (by simp only [Try.results60]; rfl) (by simp [resP]; rfl) (by repeat (first | exact List.Sublist.refl _ | exact List.nil_sublist _ | refine List.Sublist.cons_cons _ ?_ | refine List.Sublist.cons _ ?_)) ⟨g, ?_, ?_⟩
      · rw [← hf.out]; rfl
      · rw [← hf.out]

theorem clone_tm_o (l : List Tm) (hl : l.length ≤ 100000) : PCalls Try.prog 56 [.d (.sl (l.map encD))] [] fun p s => ∃ g, p = .own g (l.map encD) ∧ s = [.tok g 28 3 l.length] := by
  refine PCalls.nilOwn (R := fun p s => (∃ g, p = .own g (l.map encD) ∧ s = [.tok g 28 3 l.length]) ∨ (p = .nils ∧ s = [] ∧ l = [])) 28 3 ?_ ?_
  · refine PCalls.enter Try.func56 rfl Try.ntmps56 (by simp) ?_
    simp only [argsF]
    refine go_ ?_
    refine POps_eqlNil (fun h0 => ?_) ?_
    · have hnil := Lib.hid (show l = [] from List.map_eq_nil_iff.1 h0)
      refine go_ ?_
      refine retP_keep (st' := []) (by simp) (by simp only [Try.results56]; rfl) (by simp [resP]; rfl) (by repeat (first | exact List.Sublist.refl _ | exact List.nil_sublist _ | refine List.Sublist.cons_cons _ ?_ | refine List.Sublist.cons _ ?_)) ?_
      exact .inr ⟨rfl, rfl, hnil.out⟩
    · refine go_ ?_
      refine POps_bs0 ?_ (by decide) (by first | (simp [nev, nevA, nevB, Jo, PF.eval, PF.get, PF.wants, cPV, cCell, PV.rows, evBin, evUn, Jp, evLen, loadA, Jm, TyK.agg, partA, St.box?, St.tok?, St.setBox, St.setTok, fillO, spl, PV.ps, PV.one, Jn, aggD, slD, Jg, Jj, Jh, Ji, Jf, Je, *]; done) | fail) (by simp; rfl) (by rfl) (by simp; rfl) (by rfl) (by decide)
      intro g hg
      refine go_ ?_
      refine POps_app_a l.length ?_ ?_ ?_ ?_
      · simp
      · simp
      · exact rows3 _
      refine go_ ?_
      refine retP_keep (by simp) (by simp only [Try.results56]; rfl) (by simp [resP]; rfl) (by repeat (first | exact List.Sublist.refl _ | exact List.nil_sublist _ | refine List.Sublist.cons_cons _ ?_ | refine List.Sublist.cons _ ?_)) ?_
      exact .inl ⟨g, rfl, rfl⟩
  · rintro p s (h | ⟨rfl, rfl, rfl⟩)
    · exact .inl h
    · exact .inr ⟨rfl, rfl, fun g => ⟨g, rfl, rfl⟩⟩
/-- all numbers that a context and terms have -/
def frAll (c : List Va) (l : List Tm) : List Int := c.map Va.n ++ (l ++ c.map Va.ty).flatMap (enT 8 8)
/-- the least number that is not among some -/
def FrOk (L : List Int) (N : Nat) : Prop := (N : Int) ∉ L ∧ ∀ m : Nat, m < N → (m : Int) ∈ L
theorem pigeonI : ∀ (xs l : List Int), xs.Nodup → (∀ x ∈ xs, x ∈ l) → xs.length ≤ l.length := by
  intro xs
  induction xs with
  | nil => intro l _ _; exact Nat.zero_le _
  | cons x xs ih =>
    intro l hn h
    rw [List.nodup_cons] at hn
    have hx := h x (by simp)
    have h1 := ih (l.erase x) hn.2 fun y hy => (List.mem_erase_of_ne (fun (e : y = x) => hn.1 (e ▸ hy))).2 (h y (by simp [hy]))
    rw [List.length_erase_of_mem hx] at h1
    have := List.length_pos_of_mem hx
    rw [List.length_cons]; omega
theorem fr_ex (L : List Int) : ∃ N, N ≤ L.length ∧ FrOk L N := by
  have h1 : ∃ n : Nat, n ≤ L.length ∧ (n : Int) ∉ L := by
    refine Classical.byContradiction fun hno => ?_
    have := pigeonI ((List.range (L.length + 1)).map fun (i : Nat) => (i : Int)) L
      (by
        rw [List.Nodup, List.pairwise_map]
        exact (List.nodup_range (n := L.length + 1)).imp fun h e => h (by omega))
      fun x hx => by
        obtain ⟨i, hi, rfl⟩ := List.mem_map.1 hx
        rw [List.mem_range] at hi
        exact Classical.byContradiction fun hn => hno ⟨i, by omega, hn⟩
    rw [List.length_map, List.length_range] at this
    omega
  obtain ⟨n, hn, hnl⟩ := h1
  have key : ∀ (n : Nat), (n : Int) ∉ L → ∃ N, N ≤ n ∧ FrOk L N := by
    intro n
    induction n using Nat.strongRecOn with
    | _ n ih =>
      intro h
      by_cases hall : ∀ m : Nat, m < n → (m : Int) ∈ L
      · exact ⟨n, Nat.le_refl _, h, hall⟩
      · obtain ⟨m, hm⟩ := Classical.not_forall.1 hall
        obtain ⟨hm1, hm2⟩ := Classical.not_imp.1 hm
        obtain ⟨N, h2, h3⟩ := ih m hm1 hm2
        exact ⟨N, by omega, h3⟩
  obtain ⟨N, h2, h3⟩ := key n hnl
  exact ⟨N, by omega, h3⟩
def iwV (c : List Va) : Prop := ∀ v ∈ c, -9223372036854775808 ≤ v.n ∧ v.n ≤ 9223372036854775807
theorem fr_bd {t : Tm} {n : Int} (h : n ∈ enT 8 8 t) : 0 ≤ n ∧ n ≤ 1048576 := by
  unfold enT at h
  split at h
  · rename_i hs
    have hg := (shaped_hg hs).1
    rw [nm_cl] at h
    clear hs
    have key : ∀ (t : Tm), goodB t = true → n ∈ clT 8 8 t → 0 ≤ n ∧ n ≤ 1048576 := by
      refine Tm.ind ?_
      intro k m sub ih hg h
      obtain ⟨hh, hs⟩ := good_parts hg
      have hn := head_num hh
      simp only [clT, List.mem_append] at h
      rcases h with h | h
      · split at h
        · rw [List.mem_singleton] at h; omega
        · cases h
      · clear hg hh hn
        induction sub with
        | nil => cases h
        | cons t ts iht =>
          simp only [clS, List.mem_append] at h
          rcases h with h | h
          · exact ih t (by simp) (hs t (by simp)) h
          · exact iht (fun s h => ih s (by simp [h])) (fun s h => hs s (by simp [h])) h
    exact key t hg h
  · cases h
end Go.Proofs.Ytfnfbbmegdkhjaa

namespace Go.Proofs.Ytfnfbbmegdkhjaa
open Go.RowKit Go.WideMaps
set_option maxRecDepth 100000
theorem rev_shift (U : List Int) (x : Int) (r : List Int) : U.reverse ++ (x :: r) = (x :: U).reverse ++ r := by simp
set_option maxHeartbeats 16000000 in
theorem ffresh_p (c : List Va) (l : List Tm) (hw : iwV c) (hcl : c.length ≤ 1000) (hll : l.length ≤ 1000) (hL : (frAll c l).length ≤ 1000000) (N : Nat) (hN : FrOk (frAll c l) N) (hN2 : N ≤ 2000000) :
    PCalls Try.prog 14 [.d (.sl (c.map encD)), .d (.sl (l.map encD))] [] fun p s => p = .d (.v (.int .i64 N)) ∧ s = [] := by
  obtain ⟨L, hLd⟩ : ∃ L, L = frAll c l := ⟨_, rfl⟩
  rw [← hLd] at hL hN
  have HW := Lib.hid hw
  have HN := Lib.hid hN
  have HL := Lib.hid hL
  have HLd : Hid (L = ([] : List Int).reverse ++ ((c.drop 0).map Va.n ++ (l ++ c.map Va.ty).flatMap (enT 8 8))) := hLd
  have hC := Lib.hid (clone_tm_o l (by omega))
  clear hw hN hL hLd
  refine PCalls.enter Try.func14 rfl Try.ntmps14 (by simp) ?_
  simp only [argsF]
  refine go_ ?_
  refine POps_makeMap 3 3 fun i0 hi0 => ?_
  try simp only [Rh, Rg, Rf, Ja] at hi0
  refine go_ ?_
  refine Rd 0 0 (hC.out) ?_
  rintro p s ⟨g, rfl, rfl⟩
  simp only [List.cons_append, List.nil_append, List.append_nil, Rh, Rg, Rf]
  refine go_ ?_
  refine PW_loop (ι := Nat × List Int × List Tm) (fun y => y.1 ≤ c.length ∧ Hid (L = y.2.1.reverse ++ ((c.drop y.1).map Va.n ++ (l ++ c.map Va.ty).flatMap (enT 8 8))) ∧ Hid (y.2.2 = l ++ (c.take y.1).map Va.ty)) (fun y => [(5, .mp i0), (6, .own g (y.2.2.map encD)), (17, .d (.sl (c.map encD))), (18, .d (.v (.int .i64 c.length))), (19, .d (.v (.int .i64 (y.1 : Int))))]) (fun y => [.tok g 28 3 y.2.2.length, .obj i0 (MapO Try.prog 3 3 y.2.1.length (bagD y.2.1))]) (fun y => c.length - y.1) (0, [], l) ⟨Nat.zero_le _, HLd.out, by show _ = _; simp⟩ ?_ ?_ ?_
  · repeat (first | exact Js _ | refine Jr (by simp [PF.get]; rfl) (by first | rfl | (simp [*]; done) | fail) ?_)
  · repeat (first | exact List.Sublist.refl _ | exact List.nil_sublist _ | refine List.Sublist.cons_cons _ ?_ | refine List.Sublist.cons _ ?_)
  rintro ⟨j, U, m⟩ ⟨hj, hU, hm⟩
  simp only at hj hU hm ⊢
  clear HLd
  by_cases hlt : j < c.length
  · have hx := get_enc hlt
    have hc : (j : Int) < c.length := by omega
    have hn : (0 : Int) ≤ j := by omega
    have hin := wr64 (n := (j : Int) + 1) (by omega) (by omega)
    have hUl : U.length ≤ 1000000 := by have := congrArg List.length hU.out; rw [List.length_append, List.length_reverse] at this; have := HL.out; omega
    have hml : m.length ≤ 100000 := by rw [show m = _ from hm.out, List.length_append, List.length_map, List.length_take]; omega
    have hT := Lib.hid (btell_p i0 U.length U c[j].n (HW.out _ (List.getElem_mem hlt)).1 (HW.out _ (List.getElem_mem hlt)).2 (by omega) (by omega))
    have hU2 : Hid (L = (c[j].n :: U).reverse ++ ((c.drop (j + 1)).map Va.n ++ (l ++ c.map Va.ty).flatMap (enT 8 8))) := by
      show _ = _
      rw [show L = _ from hU.out, List.drop_eq_getElem_cons hlt, List.map_cons, List.cons_append, rev_shift]
    have hm2 : Hid (m ++ [c[j].ty] = l ++ (c.take (j + 1)).map Va.ty) := by
      show _ = _
      rw [show m = _ from hm.out, List.take_succ_eq_append_getElem hlt, List.map_append, ← List.append_assoc]; rfl
    clear hU hm hUl
    refine go_ ?_
    refine Jd ?_
    intro i2 hi2
    try simp only [Rh, Rg, Rf, Ja] at hi2
    refine go_ ?_
    refine Rc ?_
    refine go_ ?_
    refine Rd 2 1 (hT.out) ?_
    rintro p s ⟨rfl, rfl⟩
    simp only [List.cons_append, List.nil_append, List.append_nil, Rh, Rg, Rf]
    refine go_ ?_
    refine POps_bs_a ?_
    refine go_ ?_
    refine POps_app_a (m.length + 1) ?_ ?_ ?_ ?_
    · simp
    · exact rows3 _
    · exact rows_one rfl
    refine go_ ?_
    refine ⟨(j + 1, c[j].n :: U, m ++ [c[j].ty]), ⟨hlt, hU2, hm2⟩, by simp only; omega, ?_, ?_⟩
    · repeat (first | exact Js _ | refine Jr (by simp [PF.get]; rfl) (by first | rfl | (simp [Jk]; done) | fail) ?_)
    · simp only [List.length_append, List.length_singleton, List.length_cons]
      repeat (first | exact List.Sublist.refl _ | exact List.nil_sublist _ | refine List.Sublist.cons_cons _ ?_ | refine List.Sublist.cons _ ?_)
  · have hc : ¬ (j : Int) < c.length := by omega
    have hm2 : Hid (m = l ++ c.map Va.ty) := by show _ = _; rw [show m = _ from hm.out, List.take_of_length_le (by omega)]
    have hU2 : Hid (L = U.reverse ++ ((m.drop 0).flatMap (enT 8 8))) := by
      show _ = _
      rw [show L = _ from hU.out, List.drop_of_length_le (by omega), hm2.out]; rfl
    have hml : m.length ≤ 2000 := by rw [show m = _ from hm2.out, List.length_append, List.length_map]; omega
    clear hU hm hm2
    refine go_ ?_
    refine PW_loop (ι := Nat × List Int) (fun y => y.1 ≤ m.length ∧ Hid (L = y.2.reverse ++ ((m.drop y.1).flatMap (enT 8 8)))) (fun y => [(5, .mp i0), (33, .own g (m.map encD)), (34, .d (.v (.int .i64 m.length))), (35, .d (.v (.int .i64 (y.1 : Int))))]) (fun y => [.tok g 28 3 m.length, .obj i0 (MapO Try.prog 3 3 y.2.length (bagD y.2))]) (fun y => m.length - y.1) (0, U) ⟨Nat.zero_le _, hU2.out⟩ ?_ ?_ ?_
    · repeat (first | exact Js _ | refine Jr (by simp [PF.get]; rfl) (by first | rfl | (simp [*]; done) | fail) ?_)
    · repeat (first | exact List.Sublist.refl _ | exact List.nil_sublist _ | refine List.Sublist.cons_cons _ ?_ | refine List.Sublist.cons _ ?_)
    rintro ⟨k, V⟩ ⟨hk, hV⟩
    simp only at hk hV ⊢
    clear hU2 hc
    by_cases hkl : k < m.length
    · have hx := get_enc hkl
      have hc : (k : Int) < m.length := by omega
      have hn : (0 : Int) ≤ k := by omega
      have hin := wr64 (n := (k : Int) + 1) (by omega) (by omega)
      have hc1 := Lib.hid (tfrees_p m[k])
      simp only [aggD, Jk, List.map_cons, List.map_nil] at hc1
      have hV2 : Hid (L = V.reverse ++ ((enT 8 8 m[k]).drop 0 ++ (m.drop (k + 1)).flatMap (enT 8 8))) := by
        show _ = _
        rw [show L = _ from hV.out, List.drop_eq_getElem_cons hkl, List.flatMap_cons]; rfl
      have HB := Lib.hid (fun (x : Int) (h : x ∈ enT 8 8 m[k]) => fr_bd h)
      have hfl := frees_len m[k]
      clear hV
      generalize enT 8 8 m[k] = F at *
      refine go_ ?_
      refine Jd ?_
      intro i2 hi2
      try simp only [Rh, Rg, Rf, Ja] at hi2
      refine go_ ?_
      refine Rc ?_
      refine go_ ?_
      refine Jb (hc1.out) ?_
      refine go_ ?_
      refine PW_loop (ι := Nat × List Int) (fun y => y.1 ≤ F.length ∧ Hid (L = y.2.reverse ++ (F.drop y.1 ++ (m.drop (k + 1)).flatMap (enT 8 8)))) (fun y => [(5, .mp i0), (33, .own g (m.map encD)), (34, .d (.v (.int .i64 m.length))), (35, .d (.v (.int .i64 (k : Int)))), (40, .d (.sl (F.map encD))), (41, .d (.v (.int .i64 F.length))), (42, .d (.v (.int .i64 (y.1 : Int))))]) (fun y => [.tok g 28 3 m.length, .obj i0 (MapO Try.prog 3 3 y.2.length (bagD y.2))]) (fun y => F.length - y.1) (0, V) ⟨Nat.zero_le _, hV2.out⟩ ?_ ?_ ?_
      · repeat (first | exact Js _ | refine Jr (by simp [PF.get]; rfl) (by first | rfl | (simp [*]; done) | fail) ?_)
      · repeat (first | exact List.Sublist.refl _ | exact List.nil_sublist _ | refine List.Sublist.cons_cons _ ?_ | refine List.Sublist.cons _ ?_)
      rintro ⟨q, X⟩ ⟨hq, hX⟩
      simp only at hq hX ⊢
      clear hV2 hx
      by_cases hql : q < F.length
      · have hx := get_enc hql
        have hc5 : (q : Int) < F.length := by omega
        have hn5 : (0 : Int) ≤ q := by omega
        have hin5 := wr64 (n := (q : Int) + 1) (by omega) (by omega)
        have hXl : X.length ≤ 1000000 := by have := congrArg List.length hX.out; rw [List.length_append, List.length_reverse] at this; have := HL.out; omega
        have hT := Lib.hid (btell_p i0 X.length X F[q] (by have := HB.out _ (List.getElem_mem hql); omega) (by have := HB.out _ (List.getElem_mem hql); omega) (by omega) (by omega))
        have hX2 : Hid (L = (F[q] :: X).reverse ++ (F.drop (q + 1) ++ (m.drop (k + 1)).flatMap (enT 8 8))) := by
          show _ = _
          rw [show L = _ from hX.out, List.drop_eq_getElem_cons hql, List.cons_append, rev_shift]
        clear hX hXl
        refine go_ ?_
        refine Rd 1 1 (hT.out) ?_
        rintro p s ⟨rfl, rfl⟩
        simp only [List.cons_append, List.nil_append, List.append_nil, Rh, Rg, Rf]
        refine go_ ?_
        refine ⟨(q + 1, F[q] :: X), ⟨hql, hX2⟩, by simp only; omega, by repeat (first | exact Js _ | refine Jr (by simp [PF.get]; rfl) (by first | rfl | (simp [*]; done) | fail) ?_), ?_⟩
        simp only [List.length_cons]
        repeat (first | exact List.Sublist.refl _ | exact List.nil_sublist _ | refine List.Sublist.cons_cons _ ?_ | refine List.Sublist.cons _ ?_)
      · have hc5 : ¬ (q : Int) < F.length := by omega
        have hX2 : Hid (L = X.reverse ++ ((m.drop (k + 1)).flatMap (enT 8 8))) := by
          show _ = _
          rw [show L = _ from hX.out, List.drop_of_length_le (by omega)]; rfl
        clear hX
        refine go_ ?_
        exact ⟨(k + 1, X), ⟨hkl, hX2⟩, by simp only; omega, by repeat (first | exact Js _ | refine Jr (by simp [PF.get]; rfl) (by first | rfl | (simp [*]; done) | fail) ?_), by repeat (first | exact List.Sublist.refl _ | exact List.nil_sublist _ | refine List.Sublist.cons_cons _ ?_ | refine List.Sublist.cons _ ?_)⟩
    · have hc : ¬ (k : Int) < m.length := by omega
      have hV2 : Hid (L = V.reverse) := by
        show _ = _
        rw [show L = _ from hV.out, List.drop_of_length_le (by omega)]; simp
      have HM := Lib.hid (show ∀ x : Int, x ∈ L ↔ x ∈ V from fun x => by rw [hV2.out, List.mem_reverse])
      clear hV hV2
      refine go_ ?_
      refine PW_loop (ι := Nat) (fun y => y ≤ N) (fun y => [(5, .mp i0), (13, .d (.v (.int .i64 (y : Int))))]) (fun y => [.tok g 28 3 m.length, .obj i0 (MapO Try.prog 3 3 V.length (bagD V))]) (fun y => N - y) 0 (Nat.zero_le _) ?_ ?_ ?_
      · repeat (first | exact Js _ | refine Jr (by simp [PF.get]; rfl) (by first | rfl | (simp [*]; done) | fail) ?_)
      · repeat (first | exact List.Sublist.refl _ | exact List.nil_sublist _ | refine List.Sublist.cons_cons _ ?_ | refine List.Sublist.cons _ ?_)
      rintro n hnN
      have hT := Lib.hid (btold_p i0 V.length V n (by omega) (by omega))
      have hin := wr64 (n := (n : Int) + 1) (by omega) (by omega)
      by_cases hlt2 : n < N
      · rw [decide_eq_true ((HM.out _).1 (HN.out.2 n hlt2))] at hT
        have HLT := Lib.hid hlt2
        clear hlt2 hc
        refine go_ ?_
        refine Rd 1 1 (hT.out) ?_
        rintro p s ⟨rfl, rfl⟩
        simp only [List.cons_append, List.nil_append, List.append_nil, Rh, Rg, Rf]
        refine go_ ?_
        exact ⟨n + 1, HLT.out, by have := HLT.out; omega, by repeat (first | exact Js _ | refine Jr (by simp [PF.get]; rfl) (by first | rfl | (simp [*]; done) | fail) ?_), by repeat (first | exact List.Sublist.refl _ | exact List.nil_sublist _ | refine List.Sublist.cons_cons _ ?_ | refine List.Sublist.cons _ ?_)⟩
      · obtain rfl : n = N := by omega
        rw [decide_eq_false fun h => HN.out.1 ((HM.out _).2 h)] at hT
        clear hlt2 hc
        refine go_ ?_
        refine Rd 1 1 (hT.out) ?_
        rintro p s ⟨rfl, rfl⟩
        simp only [List.cons_append, List.nil_append, List.append_nil, Rh, Rg, Rf]
        refine go_ ?_
        refine Jl (by simp) (by simp only [Try.results14]; rfl) (by simp [resP, St.box?, PF.get, Jm, TyK.agg, *]; rfl) (List.nil_sublist _) ?_
        exact ⟨rfl, rfl⟩
end Go.Proofs.Ytfnfbbmegdkhjaa

namespace Go.Proofs.Ytfnfbbmegdkhjaa
open Go.RowKit Go.WideMaps
set_option maxRecDepth 100000
section
variable {H : Type} {enc : TypeId × Value → H} {w : World} {base : Nat} {spare : Nat → Bool} {held : Bool}
def iw (n : Int) : Prop := -9223372036854775808 ≤ n ∧ n ≤ 9223372036854775807
def TzS (w : World) (v : Value) (l : List Tm) : Prop := RepS (fun _ => True) w v l
def TzC (w : World) (t : Tm) (cs : List Value) : Prop := Rep (fun _ => True) w t cs
end
set_option maxHeartbeats 16000000 in
theorem rfresh22_p (c : List Va) (l : List Tm) (hcl : c.length ≤ 1000) (hll : l.length ≤ 1000) (N : Nat) (hN2 : N ≤ 1000000)
    (hN : ((c.map Va.n).any (fun x => x == (N : Int)) || (c.map Va.ty ++ l).any (fun t => sdT t N)) = false) (hN3 : ∀ m : Nat, m < N → ((c.map Va.n).any (fun x => x == (m : Int)) || (c.map Va.ty ++ l).any (fun t => sdT t m)) = true) :
    PCalls Try.prog 15 [.d (.sl (c.map encD)), .d (.sl (l.map encD))] [] fun p s => p = .d (.v (.int .i64 N)) ∧ s = [] := by
  have hC1 := Lib.hid (rfnumbers_p c (by omega))
  have hC2 := Lib.hid (rftypes_o c (by omega))
  have hlen : (c.map Va.ty ++ l).length ≤ 2000 := by rw [List.length_append, List.length_map]; omega
  have HLN := Lib.hid (show (c.map Va.ty).length + l.length = (c.map Va.ty ++ l).length by rw [List.length_append])
  have hA := Lib.hid (List.map_append (f := encD (α := Tm)) (l₁ := c.map Va.ty) (l₂ := l))
  obtain ⟨A, hAd⟩ : ∃ A, A = c.map Va.ty ++ l := ⟨_, rfl⟩
  rw [← hAd] at hN hN3 hlen hA HLN
  have HN := Lib.hid hN
  have HN3 := Lib.hid hN3
  clear hN hN3 hAd
  generalize c.map Va.n = U at *
  generalize c.map Va.ty = B at *
  refine PCalls.enter Try.func15 rfl Try.ntmps15 (by simp) ?_
  simp only [argsF]
  refine go_ ?_
  refine Jb (hC1.out) ?_
  refine go_ ?_
  refine Rd 0 0 (hC2.out) ?_
  rintro p s ⟨g, rfl, rfl⟩
  simp only [List.cons_append, List.nil_append, List.append_nil, Rh, Rg, Rf]
  refine go_ ?_
  refine POps_app_a A.length ?_ ?_ ?_ ?_
  · rw [List.length_map, List.length_map]; exact HLN.out
  · exact rows3 _
  · exact rows3 _
  rw [← hA.out]
  refine go_ ?_
  refine PW_loop (ι := Nat) (fun y => y ≤ N) (fun y => [(5, .d (.sl (U.map encD))), (6, .own g (A.map encD)), (7, .d (.v (.int .i64 (y : Int))))]) (fun _ => [.tok g 28 3 A.length]) (fun y => N - y) 0 (Nat.zero_le _) ?_ ?_ ?_
  · repeat (first | exact Js _ | refine Jr (by simp [PF.get]; rfl) (by first | rfl | (simp [*]; done) | fail) ?_)
  · repeat (first | exact List.Sublist.refl _ | exact List.nil_sublist _ | refine List.Sublist.cons_cons _ ?_ | refine List.Sublist.cons _ ?_)
  rintro n hn
  have hle : (n : Int) ≤ 1048577 := by omega
  have hin := wr64 (n := (n : Int) + 1) (by omega) (by omega)
  have hc1 := Lib.hid (rin22_p U n)
  obtain ⟨Z, hZ⟩ : ∃ Z, Z = (U.any (fun x => x == (n : Int)) || (A.drop 0).any (fun t => sdT t n)) := ⟨_, rfl⟩
  have hZn : Hid ((Z = true → n < N) ∧ (Z = false → n = N)) := by
    rw [List.drop_zero] at hZ
    refine ⟨fun h => ?_, fun h => ?_⟩
    · rcases Nat.lt_or_ge n N with h1 | h1
      · exact h1
      · obtain rfl : n = N := by omega
        rw [hZ, HN.out] at h; cases h
    · rcases Nat.lt_or_ge n N with h1 | h1
      · rw [hZ, HN3.out n h1] at h; cases h
      · omega
  have HZ := Lib.hid hZ
  clear hZ hn
  generalize U.any (fun x => x == (n : Int)) = u at *
  refine go_ ?_
  refine Jb (hc1.out) ?_
  refine go_ ?_
  refine PW_loop (ι := Nat × Bool) (fun y => y.1 ≤ A.length ∧ Hid (Z = (y.2 || (A.drop y.1).any (fun t => sdT t n)))) (fun y => [(5, .d (.sl (U.map encD))), (6, .own g (A.map encD)), (7, .d (.v (.int .i64 (n : Int)))), (8, .d (.v (.bool y.2))), (9, .d (.v (.int .i64 (y.1 : Int))))]) (fun _ => [.tok g 28 3 A.length]) (fun y => A.length - y.1) (0, u) ⟨Nat.zero_le _, HZ.out⟩ ?_ ?_ ?_
  · repeat (first | exact Js _ | refine Jr (by simp [PF.get]; rfl) (by first | rfl | (simp [*]; done) | fail) ?_)
  · repeat (first | exact List.Sublist.refl _ | exact List.nil_sublist _ | refine List.Sublist.cons_cons _ ?_ | refine List.Sublist.cons _ ?_)
  rintro ⟨i, b⟩ ⟨hi, hb⟩
  simp only at hi hb ⊢
  clear HZ
  by_cases hil : i < A.length
  · have hc : (i : Int) < A.length := by omega
    have hn0 : (0 : Int) ≤ i := by omega
    have hini := wr64 (n := (i : Int) + 1) (by omega) (by omega)
    cases b with
    | true =>
      have hf : Hid (n < N) := hZn.out.1 (by rw [hb.out]; rfl)
      clear hb
      refine go_ ?_
      exact ⟨n + 1, hf.out, by have := hf.out; omega, by repeat (first | exact Js _ | refine Jr (by simp [PF.get]; rfl) (by first | rfl | (simp [*]; done) | fail) ?_), by repeat (first | exact List.Sublist.refl _ | exact List.nil_sublist _ | refine List.Sublist.cons_cons _ ?_ | refine List.Sublist.cons _ ?_)⟩
    | false =>
      have hx := get_enc hil
      have hb2 : Hid (Z = (sdT A[i] n || (A.drop (i + 1)).any (fun t => sdT t n))) := by show _ = _; rw [show Z = _ from hb.out, List.drop_eq_getElem_cons hil]; rfl
      have hc2 := Lib.hid (rstands_p A[i] n)
      simp only [aggD, Jk, List.map_cons, List.map_nil] at hc2
      clear hb
      generalize sdT A[i] n = q at *
      refine go_ ?_
      refine Jb (hc2.out) ?_
      refine go_ ?_
      exact ⟨(i + 1, q), ⟨hil, hb2⟩, by simp only; omega, by repeat (first | exact Js _ | refine Jr (by simp [PF.get]; rfl) (by first | rfl | (simp [*]; done) | fail) ?_), by repeat (first | exact List.Sublist.refl _ | exact List.nil_sublist _ | refine List.Sublist.cons_cons _ ?_ | refine List.Sublist.cons _ ?_)⟩
  · have hc : ¬ (i : Int) < A.length := by omega
    have hb2 : Hid (Z = b) := by show _ = _; rw [show Z = _ from hb.out, List.drop_of_length_le (by omega)]; simp
    clear hb
    cases b with
    | true =>
      have hf : Hid (n < N) := hZn.out.1 hb2.out
      refine go_ ?_
      exact ⟨n + 1, hf.out, by have := hf.out; omega, by repeat (first | exact Js _ | refine Jr (by simp [PF.get]; rfl) (by first | rfl | (simp [*]; done) | fail) ?_), by repeat (first | exact List.Sublist.refl _ | exact List.nil_sublist _ | refine List.Sublist.cons_cons _ ?_ | refine List.Sublist.cons _ ?_)⟩
    | false =>
      have hf : n = N := hZn.out.2 hb2.out
      subst hf
      refine go_ ?_
      refine Jl (by simp) (by simp only [Try.results15]; rfl) (by simp [resP, St.box?, PF.get, Jm, TyK.agg, *]; rfl) (List.nil_sublist _) ?_
      exact ⟨rfl, rfl⟩
end Go.Proofs.Ytfnfbbmegdkhjaa

namespace Go.Proofs.Ytfnfbbmegdkhjaa
open Go.RowKit Go.WideMaps
set_option maxRecDepth 100000
def awC : List Va := [⟨3, .mk 8 4 []⟩, ⟨4, .mk 2 0 []⟩]
def awD : List Va := [⟨4, .mk 2 0 []⟩, ⟨3, .mk 8 4 []⟩]
theorem aw_order : orderR awC = (awD, 0) := by kernel_rfl
theorem aw_fresh : FrOk (frAll awD []) 0 := ⟨by decide +kernel, fun m h => absurd h (by omega)⟩
set_option maxHeartbeats 8000000 in
theorem awake22_p : PCalls Try.prog 12 [] [] fun p s => p = .d (.v (.bool true)) ∧ s = [] := by
  have hO := forder_p awC (by decide)
  rw [aw_order] at hO
  have hF := ffresh_p awD [] (by intro v hv; simp only [awD, List.mem_cons, List.not_mem_nil, or_false] at hv; rcases hv with rfl | rfl <;> decide) (by decide) (by decide) (by decide +kernel) 0 aw_fresh (by decide)
  unfold ordP at hO
  simp only [awC, awD, List.map_cons, List.map_nil, encD_va, Ju, Jv, Jw] at hO hF
  have HO := Lib.hid hO
  have HF := Lib.hid hF
  clear hO hF
  refine PCalls.enter Try.func12 rfl Try.ntmps12 (by simp) ?_
  simp only [argsF]
  refine go_ ?_
  refine Jd ?_
  intro i0 hi0
  try simp only [Rh, Rg, Rf, Ja] at hi0
  refine go_ ?_
  refine Rc ?_
  refine go_ ?_
  refine POps_bs_a ?_
  refine go_ ?_
  refine Jb (HO.out) ?_
  refine go_ ?_
  refine Jq (HF.out) ?_
  refine go_ ?_
  refine Jl (by simp) (by simp only [Try.results12]; rfl) (by simp [resP, St.box?, PF.get, Jm, TyK.agg, *]; rfl) (List.nil_sublist _) ?_
  exact ⟨rfl, rfl⟩
theorem csize_nn (t : Tm) : 0 ≤ csizeT t := (csize_bd t).1
theorem szV_sum : ∀ (l : List Va) (n : Int), 0 ≤ n → szV l n < 6000 → n + (l.map fun v => csizeT v.ty).sum < 6000 := by
  intro l
  induction l with
  | nil => intro n h0 h; simpa [szV] using h
  | cons v r ih =>
    intro n h0 h
    rw [szV] at h
    have := csize_nn v.ty
    split at h
    · have h2 := ih (n + csizeT v.ty) (by omega) h
      rw [List.map_cons, List.sum_cons]; omega
    · omega
theorem light_ok {c : List Va} (h : lightB c = true) : c.length ≤ 300 ∧ (c.map fun v => csizeT v.ty).sum < 6000 := by
  unfold lightB at h
  simp only [Bool.and_eq_true, decide_eq_true_eq] at h
  have := szV_sum c 0 (by decide) h.2
  refine ⟨by omega, by omega⟩
theorem fr_cnd {t : Tm} : ((enT 8 8 t).length : Int) ≤ csizeT t := by
  unfold enT
  split
  · rename_i h
    have h1 := nm_len 8 8 t
    have h2 := (shaped_hg h).2.2
    rw [size_nd]; omega
  · exact csize_nn t
theorem frAll_len {c : List Va} {l : List Tm} (h : lightB c = true) (hl : l.length ≤ 30) : (frAll c l).length ≤ 300000 := by
  obtain ⟨h1, h2⟩ := light_ok h
  have h3 : ∀ (q : List Va), ((q.map Va.ty).flatMap (enT 8 8)).length ≤ (q.map fun v => csizeT v.ty).sum := by
    intro q
    induction q with
    | nil => simp
    | cons v r ih =>
      rw [List.map_cons, List.flatMap_cons, List.length_append, List.map_cons, List.sum_cons]
      have := fr_cnd (t := v.ty)
      omega
  have h4 : ∀ (q : List Tm), (q.flatMap (enT 8 8)).length ≤ q.length * 8192 := by
    intro q
    induction q with
    | nil => simp
    | cons v r ih =>
      rw [List.flatMap_cons, List.length_append, List.length_cons]
      have := frees_len v
      omega
  have h5 := h3 c
  have h6 := h4 l
  unfold frAll
  rw [List.length_append, List.length_map, List.flatMap_append, List.length_append]
  omega
theorem sh_mem {c : List Va} (h : shV c = true) : ∀ v ∈ c, shapedB v.ty = true := by
  unfold shV at h
  rw [List.all_eq_true] at h
  exact h
theorem fr_iff {c : List Va} {l : List Tm} (hc : shV c = true) (hl : ∀ t ∈ l, shapedB t = true) (n : Int) :
    ((c.map Va.n).any (fun x => x == n) || (c.map Va.ty ++ l).any (fun t => sdT t n)) = decide (n ∈ frAll c l) := by
  rw [Bool.eq_iff_iff, decide_eq_true_eq, Bool.or_eq_true, List.any_eq_true, List.any_eq_true]
  unfold frAll
  rw [List.mem_append, List.mem_flatMap]
  have hs : ∀ t, t ∈ c.map Va.ty ++ l → shapedB t = true := by
    intro t ht
    rcases List.mem_append.1 ht with h | h
    · obtain ⟨v, hv, rfl⟩ := List.mem_map.1 h
      exact sh_mem hc v hv
    · exact hl t h
  constructor
  · rintro (⟨x, hx, he⟩ | ⟨t, ht, he⟩)
    · exact .inl (beq_iff_eq.1 he ▸ hx)
    · exact .inr ⟨t, List.mem_append.2 (List.mem_append.1 ht).symm, (frees_sd (hs t ht) n).2 he⟩
  · rintro (h | ⟨t, ht, he⟩)
    · exact .inl ⟨n, h, by simp⟩
    · have ht2 := List.mem_append.2 (List.mem_append.1 ht).symm
      exact .inr ⟨t, ht2, (frees_sd (hs t ht2) n).1 he⟩
theorem same_shaped : ∀ {a b : List Va}, shV a = true → shV b = true → sameV csameB a b = sameV ceqT a b := by
  intro a
  induction a with
  | nil => intro b _ _; cases b <;> rfl
  | cons x a ih =>
    intro b ha hb
    cases b with
    | nil => rfl
    | cons y b =>
      unfold shV at ha hb
      rw [List.all_cons, Bool.and_eq_true] at ha hb
      rw [sameV, sameV, ih ha.2 hb.2]
      unfold csameB
      rw [ha.1, hb.1]; rfl
theorem same_self : ∀ {a : List Va}, shV a = true → sameV csameB a a = true := by
  intro a
  induction a with
  | nil => intro _; rfl
  | cons x a ih =>
    intro ha
    unfold shV at ha
    rw [List.all_cons, Bool.and_eq_true] at ha
    rw [sameV, ih ha.2]
    unfold csameB
    rw [ha.1, (eqT_iff x.ty x.ty).2 rfl]; simp
set_option maxHeartbeats 16000000 in
theorem freshes_p (c d : List Va) (l : List Tm) (hwc : ∀ e ∈ c, iw e.n) : PCalls Try.prog 3 [.d (.sl (c.map encD)), .d (.sl (d.map encD)), .d (.sl (l.map encD))] [] fun p s => p = .d (.v (.bool true)) ∧ s = [] := by
  have hA := Lib.hid awake22_p
  have hL1 := Lib.hid (law22light_p c)
  cases h1 : lightB c with
  | false =>
    rw [h1] at hL1
    refine PCalls.enter Try.func3 rfl Try.ntmps3 (by simp) ?_
    simp only [argsF]
    refine go_ ?_
    refine Jb (hL1.out) ?_
    refine go_ ?_
    refine Jb (hA.out) ?_
    refine go_ ?_
    refine Jl (by simp) (by simp only [Try.results3]; rfl) (by simp [resP, St.box?, PF.get, Jm, TyK.agg, *]; rfl) (List.nil_sublist _) ?_
    exact ⟨rfl, rfl⟩
  | true =>
  rw [h1] at hL1
  have hL2 := Lib.hid (law22light_p d)
  cases h2 : lightB d with
  | false =>
    rw [h2] at hL2
    refine PCalls.enter Try.func3 rfl Try.ntmps3 (by simp) ?_
    simp only [argsF]
    refine go_ ?_
    refine Jb (hL1.out) ?_
    refine go_ ?_
    refine Jq (hL2.out) ?_
    refine go_ ?_
    refine Jb (hA.out) ?_
    refine go_ ?_
    refine Jl (by simp) (by simp only [Try.results3]; rfl) (by simp [resP, St.box?, PF.get, Jm, TyK.agg, *]; rfl) (List.nil_sublist _) ?_
    exact ⟨rfl, rfl⟩
  | true =>
  rw [h2] at hL2
  by_cases h3 : 30 < l.length
  · have h3i : (30 : Int) < l.length := by omega
    refine PCalls.enter Try.func3 rfl Try.ntmps3 (by simp) ?_
    simp only [argsF]
    refine go_ ?_
    refine Jb (hL1.out) ?_
    refine go_ ?_
    refine Jq (hL2.out) ?_
    refine go_ ?_
    refine Jb (hA.out) ?_
    refine go_ ?_
    refine Jl (by simp) (by simp only [Try.results3]; rfl) (by simp [resP, St.box?, PF.get, Jm, TyK.agg, *]; rfl) (List.nil_sublist _) ?_
    exact ⟨rfl, rfl⟩
  have hS1 := Lib.hid (law22shaped_p c)
  cases h4 : shV c with
  | false =>
    rw [h4] at hS1
    have h3i : ¬ (30 : Int) < l.length := by omega
    refine PCalls.enter Try.func3 rfl Try.ntmps3 (by simp) ?_
    simp only [argsF]
    refine go_ ?_
    refine Jb (hL1.out) ?_
    refine go_ ?_
    refine Jq (hL2.out) ?_
    refine go_ ?_
    refine Jq (hS1.out) ?_
    refine go_ ?_
    refine Jb (hA.out) ?_
    refine go_ ?_
    refine Jl (by simp) (by simp only [Try.results3]; rfl) (by simp [resP, St.box?, PF.get, Jm, TyK.agg, *]; rfl) (List.nil_sublist _) ?_
    exact ⟨rfl, rfl⟩
  | true =>
  rw [h4] at hS1
  have hS2 := Lib.hid (law22shaped_p d)
  cases h5 : shV d with
  | false =>
    rw [h5] at hS2
    have h3i : ¬ (30 : Int) < l.length := by omega
    refine PCalls.enter Try.func3 rfl Try.ntmps3 (by simp) ?_
    simp only [argsF]
    refine go_ ?_
    refine Jb (hL1.out) ?_
    refine go_ ?_
    refine Jq (hL2.out) ?_
    refine go_ ?_
    refine Jq (hS1.out) ?_
    refine go_ ?_
    refine Jq (hS2.out) ?_
    refine go_ ?_
    refine Jb (hA.out) ?_
    refine go_ ?_
    refine Jl (by simp) (by simp only [Try.results3]; rfl) (by simp [resP, St.box?, PF.get, Jm, TyK.agg, *]; rfl) (List.nil_sublist _) ?_
    exact ⟨rfl, rfl⟩
  | true =>
  rw [h5] at hS2
  have h3i : ¬ (30 : Int) < l.length := by omega
  have H1 := Lib.hid h1
  have H2 := Lib.hid h2
  have H4 := Lib.hid h4
  have H5 := Lib.hid h5
  have HW := Lib.hid hwc
  clear h1 h2 h4 h5 hwc
  have hO1 := Lib.hid (law22of_p c (by have := (light_ok H1.out).1; omega))
  have hSm := Lib.hid (fsame_p c d)
  have hSr := Lib.hid (rsame22_p c d)
  have hSs := Lib.hid (fsame_p c c)
  rw [same_shaped H4.out H5.out] at hSm
  rw [same_self H4.out] at hSs
  have hO2 := Lib.hid (law22of_p d (by have := (light_ok H2.out).1; omega))
  generalize sameV ceqT c d = q at *
  refine PCalls.enter Try.func3 rfl Try.ntmps3 (by simp) ?_
  simp only [argsF]
  refine go_ ?_
  refine Jb (hL1.out) ?_
  refine go_ ?_
  refine Jq (hL2.out) ?_
  refine go_ ?_
  refine Jq (hS1.out) ?_
  refine go_ ?_
  refine Jq (hS2.out) ?_
  refine go_ ?_
  refine PW_loop (ι := Nat) (fun y => y ≤ l.length ∧ Hid (∀ t ∈ l.take y, shapedB t = true)) (fun y => [(0, .d (.sl (c.map encD))), (1, .d (.sl (d.map encD))), (2, .d (.sl (l.map encD))), (7, .d (.v (.int .i64 (y : Int))))]) (fun _ => []) (fun y => l.length - y) 0 ⟨Nat.zero_le _, by intro t ht; simp at ht⟩ ?_ ?_ ?_
  · repeat (first | exact Js _ | refine Jr (by simp [PF.get]; rfl) (by first | rfl | (simp [*]; done) | fail) ?_)
  · repeat (first | exact List.Sublist.refl _ | exact List.nil_sublist _ | refine List.Sublist.cons_cons _ ?_ | refine List.Sublist.cons _ ?_)
  rintro j ⟨hj, hs⟩
  by_cases hlt : j < l.length
  · have hx := get_enc hlt
    have hc : (j : Int) < l.length := by omega
    have hn : (0 : Int) ≤ j := by omega
    have hin := wr64 (n := (j : Int) + 1) (by omega) (by omega)
    have hc1 := Lib.hid (rshaped_p l[j])
    simp only [aggD, Jk, List.map_cons, List.map_nil] at hc1
    cases hq : shapedB l[j] with
    | false =>
      rw [hq] at hc1
      clear hs
      refine go_ ?_
      refine Jb (hc1.out) ?_
      refine go_ ?_
      refine Jb (hA.out) ?_
      refine go_ ?_
      refine Jl (by simp) (by simp only [Try.results3]; rfl) (by simp [resP, St.box?, PF.get, Jm, TyK.agg, *]; rfl) (List.nil_sublist _) ?_
      exact ⟨rfl, rfl⟩
    | true =>
      rw [hq] at hc1
      have hs2 : Hid (∀ t ∈ l.take (j + 1), shapedB t = true) := by
        intro t ht
        rw [List.take_succ_eq_append_getElem hlt, List.mem_append, List.mem_singleton] at ht
        rcases ht with h | rfl
        · exact hs.out t h
        · exact hq
      clear hs hq
      refine go_ ?_
      refine Jb (hc1.out) ?_
      refine go_ ?_
      exact ⟨j + 1, ⟨hlt, hs2⟩, by omega, by repeat (first | exact Js _ | refine Jr (by simp [PF.get]; rfl) (by first | rfl | (simp [*]; done) | fail) ?_), by repeat (first | exact List.Sublist.refl _ | exact List.nil_sublist _ | refine List.Sublist.cons_cons _ ?_ | refine List.Sublist.cons _ ?_)⟩
  · have hc : ¬ (j : Int) < l.length := by omega
    rw [List.take_of_length_le (by omega)] at hs
    obtain ⟨N, hN1, hN2⟩ := fr_ex (frAll c l)
    have hfl := frAll_len H1.out (show l.length ≤ 30 by omega)
    have hcl := (light_ok H1.out).1
    have hF1 := Lib.hid (ffresh_p c l HW.out (by omega) (by omega) (by omega) N hN2 (by omega))
    have hF2 := Lib.hid (rfresh22_p c l (by omega) (by omega) N (by omega) (by rw [fr_iff H4.out hs.out]; exact decide_eq_false hN2.1) fun m hm => by rw [fr_iff H4.out hs.out]; exact decide_eq_true (hN2.2 m hm))
    clear hN2 hfl hcl hN1 hs
    refine go_ ?_
    refine Jb (hF1.out) ?_
    refine go_ ?_
    refine Jb (hO1.out) ?_
    refine go_ ?_
    refine Jb (hF2.out) ?_
    refine go_ ?_
    refine Jq (hSm.out) ?_
    refine go_ ?_
    refine Jq (hO1.out) ?_
    refine go_ ?_
    refine Jq (hO2.out) ?_
    refine go_ ?_
    refine Jq (hSr.out) ?_
    refine go_ ?_
    refine Jq (hSs.out) ?_
    refine go_ ?_
    refine Jq (hA.out) ?_
    refine go_ ?_
    refine Jl (by simp) (by simp only [Try.results3]; rfl) (by simp [resP, St.box?, PF.get, Jm, TyK.agg, *]; rfl) (List.nil_sublist _) ?_
    exact ⟨by simp [tupP, PV.norm2, PV.norm1, PV.norm0], rfl⟩
end Go.Proofs.Ytfnfbbmegdkhjaa

namespace Go.Proofs.Ytfnfbbmegdkhjaa
open Go.RowKit Go.WideMaps
set_option maxRecDepth 100000
theorem rfits08_p (n : Int) : PCalls Try.prog 107 [.d (.v (.int .i64 n))] [] fun p s => p = .d (.v (.bool (fitsB n))) ∧ s = [] := by
  unfold fitsB
  by_cases h0 : 0 ≤ n
  · by_cases h1 : n ≤ 1048576
    · rw [decide_eq_true h0, decide_eq_true h1]
      refine PCalls.enter Try.func107 rfl Try.ntmps107 (by simp) ?_
      simp only [argsF]
      refine go_ ?_
      refine Jl (by simp) (by simp only [Try.results107]; rfl) (by simp [resP, St.box?, PF.get, Jm, TyK.agg, *]; rfl) (List.nil_sublist _) ?_
      exact ⟨rfl, rfl⟩
    · rw [decide_eq_true h0, decide_eq_false h1]
      refine PCalls.enter Try.func107 rfl Try.ntmps107 (by simp) ?_
      simp only [argsF]
      refine go_ ?_
      refine Jl (by simp) (by simp only [Try.results107]; rfl) (by simp [resP, St.box?, PF.get, Jm, TyK.agg, *]; rfl) (List.nil_sublist _) ?_
      exact ⟨rfl, rfl⟩
  · rw [decide_eq_false h0, Bool.false_and]
    refine PCalls.enter Try.func107 rfl Try.ntmps107 (by simp) ?_
    simp only [argsF]
    refine go_ ?_
    refine Jl (by simp) (by simp only [Try.results107]; rfl) (by simp [resP, St.box?, PF.get, Jm, TyK.agg, *]; rfl) (List.nil_sublist _) ?_
    exact ⟨rfl, rfl⟩
set_option maxHeartbeats 8000000 in
theorem rshaped22_p (c : List Va) : PCalls Try.prog 70 [.d (.sl (c.map encD))] [] fun p s => p = .d (.v (.bool (shapedV c))) ∧ s = [] := by
  obtain ⟨R, hR⟩ : ∃ R, R = shapedV c := ⟨_, rfl⟩
  rw [← hR]
  have HR : Hid (R = ((c.drop 0).all fitV && decide ((c.length : Int) ≤ 256))) := hR
  clear hR
  refine PCalls.enter Try.func70 rfl Try.ntmps70 (by simp) ?_
  simp only [argsF]
  refine PW_slen (t := 0) (rows := c.map encD) (by simp [PF.get] <;> rfl) rfl fun hml => ?_
  rw [List.length_map] at hml
  unfold maxLen at hml
  refine go_ ?_
  refine PW_loop (ι := Nat) (fun y => y ≤ c.length ∧ Hid (R = ((c.drop y).all fitV && decide ((c.length : Int) ≤ 256)))) (fun y => [(0, .d (.sl (c.map encD))), (3, .d (.v (.int .i64 (y : Int))))]) (fun _ => []) (fun y => c.length - y) 0 ⟨Nat.zero_le _, HR.out⟩ ?_ ?_ ?_
  · repeat (first | exact Js _ | refine Jr (by simp [PF.get]; rfl) (by first | rfl | (simp [*]; done) | fail) ?_)
  · repeat (first | exact List.Sublist.refl _ | exact List.nil_sublist _ | refine List.Sublist.cons_cons _ ?_ | refine List.Sublist.cons _ ?_)
  · rintro j ⟨hj, hR⟩
    clear HR
    by_cases hlt : j < c.length
    · have hx := get_enc hlt
      have hc : (j : Int) < c.length := by omega
      have hn : (0 : Int) ≤ j := by omega
      have hin := wr64 (n := (j : Int) + 1) (by omega) (by omega)
      have hR2 : Hid (R = (fitV c[j] && (c.drop (j + 1)).all fitV && decide ((c.length : Int) ≤ 256))) := by show _ = _; rw [show R = _ from hR.out, List.drop_eq_getElem_cons hlt]; rfl
      have hc1 := Lib.hid (rfits08_p c[j].n)
      have hc2 := Lib.hid (rshaped_p c[j].ty)
      simp only [aggD, Jk, List.map_cons, List.map_nil] at hc2
      rw [fitV_iff] at hR2
      clear hR
      generalize fitsB c[j].n = q1 at *
      generalize shapedB c[j].ty = q2 at *
      cases q1 with
      | false =>
        have hf : Hid (R = false) := by show _ = _; rw [show R = _ from hR2.out]; rfl
        clear hR2
        refine go_ ?_
        refine Jb (hc1.out) ?_
        refine go_ ?_
        refine Jl (by simp) (by simp only [Try.results70]; rfl) (by simp [resP, St.box?, PF.get, Jm, TyK.agg, *]; rfl) (List.nil_sublist _) ?_
        exact ⟨by rw [hf.out]; rfl, rfl⟩
      | true =>
      cases q2 with
      | false =>
        have hf : Hid (R = false) := by show _ = _; rw [show R = _ from hR2.out]; rfl
        clear hR2
        refine go_ ?_
        refine Jb (hc1.out) ?_
        refine go_ ?_
        refine Jq (hc2.out) ?_
        refine go_ ?_
        refine Jl (by simp) (by simp only [Try.results70]; rfl) (by simp [resP, St.box?, PF.get, Jm, TyK.agg, *]; rfl) (List.nil_sublist _) ?_
        exact ⟨by rw [hf.out]; rfl, rfl⟩
      | true =>
        have hR3 : Hid (R = ((c.drop (j + 1)).all fitV && decide ((c.length : Int) ≤ 256))) := by show _ = _; rw [show R = _ from hR2.out]; rfl
        clear hR2
        refine go_ ?_
        refine Jb (hc1.out) ?_
        refine go_ ?_
        refine Jq (hc2.out) ?_
        refine go_ ?_
        exact ⟨j + 1, ⟨hlt, hR3⟩, by omega, by repeat (first | exact Js _ | refine Jr (by simp [PF.get]; rfl) (by first | rfl | (simp [*]; done) | fail) ?_), by repeat (first | exact List.Sublist.refl _ | exact List.nil_sublist _ | refine List.Sublist.cons_cons _ ?_ | refine List.Sublist.cons _ ?_)⟩
    · have hc : ¬ (j : Int) < c.length := by omega
      have hf : Hid (R = decide ((c.length : Int) ≤ 256)) := by rw [show R = _ from hR.out, List.drop_of_length_le (by omega)]; rfl
      by_cases h6 : (c.length : Int) ≤ 256
      · rw [decide_eq_true h6] at hf
        refine go_ ?_
        refine Jl (by simp) (by simp only [Try.results70]; rfl) (by simp [resP, St.box?, PF.get, Jm, TyK.agg, *]; rfl) (List.nil_sublist _) ?_
        exact ⟨by rw [hf.out]; rfl, rfl⟩
      · rw [decide_eq_false h6] at hf
        refine go_ ?_
        refine Jl (by simp) (by simp only [Try.results70]; rfl) (by simp [resP, St.box?, PF.get, Jm, TyK.agg, *]; rfl) (List.nil_sublist _) ?_
        exact ⟨by rw [hf.out]; rfl, rfl⟩
def isP (o : Option Nat) (i : Nat) : Bool := decide (plI o = (i : Int))
def onceL (c : List Va) : List Va → Nat → Bool
  | [], _ => true
  | v :: r, i => isP (plF v.n c 0) i && onceL c r (i + 1)
theorem isP_iff {o : Option Nat} {i : Nat} : isP o i = true ↔ o = some i := by
  unfold isP
  cases o with
  | none => simp [plI]
  | some j =>
    show decide ((j : Int) = i) = true ↔ some j = some i
    rw [decide_eq_true_eq, Option.some.injEq]; omega
theorem onceL_iff (c : List Va) : ∀ (r : List Va) (i : Nat), onceL c r i = true ↔ ∀ (k : Nat) (v : Va), r[k]? = some v → plF v.n c 0 = some (i + k) := by
  intro r
  induction r with
  | nil => intro i; simp [onceL]
  | cons x r ih =>
    intro i
    rw [onceL, Bool.and_eq_true, isP_iff, ih]
    constructor
    · rintro ⟨h1, h2⟩ k v hk
      cases k with
      | zero =>
        simp only [List.getElem?_cons_zero, Option.some.injEq] at hk
        subst hk; exact h1
      | succ k =>
        simp only [List.getElem?_cons_succ] at hk
        rw [h2 k v hk, show i + 1 + k = i + (k + 1) by omega]
    · intro h
      refine ⟨h 0 x rfl, fun k v hk => ?_⟩
      rw [h (k + 1) v (by simpa using hk), show i + 1 + k = i + (k + 1) by omega]
theorem onceL_eq (c : List Va) : onceL c c 0 = onceV c := by
  rw [Bool.eq_iff_iff, onceL_iff]
  unfold onceV
  rw [decide_eq_true_eq]
  constructor
  · intro h
    rw [List.Nodup, List.pairwise_iff_getElem]
    intro i j hi hj hij e
    rw [List.length_map] at hi hj
    rw [List.getElem_map, List.getElem_map] at e
    have h1 := h i c[i] (List.getElem?_eq_getElem hi)
    have h2 := h j c[j] (List.getElem?_eq_getElem hj)
    rw [e, h2] at h1
    have := Option.some.inj h1
    omega
  · intro h k v hk
    exact plF_at 0 h hk
set_option maxHeartbeats 8000000 in
theorem ronce22_p (c : List Va) : PCalls Try.prog 71 [.d (.sl (c.map encD))] [] fun p s => p = .d (.v (.bool (onceV c))) ∧ s = [] := by
  obtain ⟨R, hR⟩ : ∃ R, R = onceL c c 0 := ⟨_, rfl⟩
  rw [← onceL_eq, ← hR]
  have HR : Hid (R = onceL c (c.drop 0) 0) := hR
  clear hR
  refine PCalls.enter Try.func71 rfl Try.ntmps71 (by simp) ?_
  simp only [argsF]
  refine PW_slen (t := 0) (rows := c.map encD) (by simp [PF.get] <;> rfl) rfl fun hml => ?_
  rw [List.length_map] at hml
  unfold maxLen at hml
  refine go_ ?_
  refine PW_loop (ι := Nat) (fun y => y ≤ c.length ∧ Hid (R = onceL c (c.drop y) y)) (fun y => [(0, .d (.sl (c.map encD))), (3, .d (.v (.int .i64 (y : Int))))]) (fun _ => []) (fun y => c.length - y) 0 ⟨Nat.zero_le _, HR.out⟩ ?_ ?_ ?_
  · repeat (first | exact Js _ | refine Jr (by simp [PF.get]; rfl) (by first | rfl | (simp [*]; done) | fail) ?_)
  · repeat (first | exact List.Sublist.refl _ | exact List.nil_sublist _ | refine List.Sublist.cons_cons _ ?_ | refine List.Sublist.cons _ ?_)
  · rintro j ⟨hj, hR⟩
    clear HR
    by_cases hlt : j < c.length
    · have hx := get_enc hlt
      have hc : (j : Int) < c.length := by omega
      have hn : (0 : Int) ≤ j := by omega
      have hin := wr64 (n := (j : Int) + 1) (by omega) (by omega)
      have hR2 : Hid (R = (isP (plF c[j].n c 0) j && onceL c (c.drop (j + 1)) (j + 1))) := by show _ = _; rw [show R = _ from hR.out, List.drop_eq_getElem_cons hlt]; rfl
      have hc1 := Lib.hid (rplace22_p c c[j].n)
      clear hR
      generalize plF c[j].n c 0 = o at *
      by_cases hq : plI o = (j : Int)
      · have hR3 : Hid (R = onceL c (c.drop (j + 1)) (j + 1)) := by show _ = _; rw [show R = _ from hR2.out]; unfold isP; rw [decide_eq_true hq]; rfl
        rw [hq] at hc1
        clear hR2 hq
        refine go_ ?_
        refine Jb (hc1.out) ?_
        refine go_ ?_
        exact ⟨j + 1, ⟨hlt, hR3⟩, by omega, by repeat (first | exact Js _ | refine Jr (by simp [PF.get]; rfl) (by first | rfl | (simp [*]; done) | fail) ?_), by repeat (first | exact List.Sublist.refl _ | exact List.nil_sublist _ | refine List.Sublist.cons_cons _ ?_ | refine List.Sublist.cons _ ?_)⟩
      · have hf : Hid (R = false) := by show _ = _; rw [show R = _ from hR2.out]; unfold isP; rw [decide_eq_false hq]; rfl
        have hne : (plI o != (j : Int)) = true := by rw [bne_iff_ne]; exact hq
        clear hR2 hq
        generalize plI o = z at *
        refine go_ ?_
        refine Jb (hc1.out) ?_
        refine go_ ?_
        refine Jl (by simp) (by simp only [Try.results71]; rfl) (by simp [resP, St.box?, PF.get, Jm, TyK.agg, *]; rfl) (List.nil_sublist _) ?_
        exact ⟨by rw [hf.out]; rfl, rfl⟩
    · have hc : ¬ (j : Int) < c.length := by omega
      have hf : Hid (R = true) := by rw [show R = _ from hR.out, List.drop_of_length_le (by omega)]; rfl
      refine go_ ?_
      refine Jl (by simp) (by simp only [Try.results71]; rfl) (by simp [resP, St.box?, PF.get, Jm, TyK.agg, *]; rfl) (List.nil_sublist _) ?_
      exact ⟨by rw [hf.out]; rfl, rfl⟩
set_option maxHeartbeats 16000000 in
theorem rready22_p (c : List Va) : PCalls Try.prog 72 [.d (.sl (c.map encD))] [] fun p s => p = .d (.v (.int .i64 (plI (readyV c)))) ∧ s = [] := by
  obtain ⟨R, hR⟩ : ∃ R, R = readyV c := ⟨_, rfl⟩
  rw [← hR]
  have HR : Hid (R = readyG c (c.drop 0) 0) := hR
  clear hR
  refine PCalls.enter Try.func72 rfl Try.ntmps72 (by simp) ?_
  simp only [argsF]
  refine PW_slen (t := 0) (rows := c.map encD) (by simp [PF.get] <;> rfl) rfl fun hml => ?_
  rw [List.length_map] at hml
  unfold maxLen at hml
  refine go_ ?_
  refine PW_loop (ι := Nat) (fun y => y ≤ c.length ∧ Hid (R = readyG c (c.drop y) y)) (fun y => [(0, .d (.sl (c.map encD))), (3, .d (.v (.int .i64 (y : Int))))]) (fun _ => []) (fun y => c.length - y) 0 ⟨Nat.zero_le _, HR.out⟩ ?_ ?_ ?_
  · repeat (first | exact Js _ | refine Jr (by simp [PF.get]; rfl) (by first | rfl | (simp [*]; done) | fail) ?_)
  · repeat (first | exact List.Sublist.refl _ | exact List.nil_sublist _ | refine List.Sublist.cons_cons _ ?_ | refine List.Sublist.cons _ ?_)
  rintro j ⟨hj, hR⟩
  clear HR
  by_cases hlt : j < c.length
  · have hx := get_enc hlt
    have hc : (j : Int) < c.length := by omega
    have hn : (0 : Int) ≤ j := by omega
    have hin := wr64 (n := (j : Int) + 1) (by omega) (by omega)
    have hR2 : Hid (R = if anyIn c[j].ty c = true then readyG c (c.drop (j + 1)) (j + 1) else some j) := by
      rw [show R = _ from hR.out, List.drop_eq_getElem_cons hlt]; rfl
    obtain ⟨Z, hZ⟩ : ∃ Z, Z = anyIn c[j].ty c := ⟨_, rfl⟩
    rw [← hZ] at hR2
    have HZ : Hid (Z = (false || anyIn c[j].ty (c.drop 0))) := hZ
    clear hR hZ
    refine go_ ?_
    refine PW_loop (ι := Nat × Bool) (fun y => y.1 ≤ c.length ∧ Hid (Z = (y.2 || anyIn c[j].ty (c.drop y.1)))) (fun y => [(0, .d (.sl (c.map encD))), (3, .d (.v (.int .i64 (j : Int)))), (4, .d (.v (.bool y.2))), (5, .d (.v (.int .i64 (y.1 : Int))))]) (fun _ => []) (fun y => c.length - y.1) (0, false) ⟨Nat.zero_le _, HZ.out⟩ ?_ ?_ ?_
    · repeat (first | exact Js _ | refine Jr (by simp [PF.get]; rfl) (by first | rfl | (simp [*]; done) | fail) ?_)
    · repeat (first | exact List.Sublist.refl _ | exact List.nil_sublist _ | refine List.Sublist.cons_cons _ ?_ | refine List.Sublist.cons _ ?_)
    rintro ⟨k, b⟩ ⟨hk, hb⟩
    simp only at hk hb ⊢
    clear HZ
    by_cases hkl : k < c.length
    · have hy := get_enc hkl
      have hc2 : (k : Int) < c.length := by omega
      have hn2 : (0 : Int) ≤ k := by omega
      have hin2 := wr64 (n := (k : Int) + 1) (by omega) (by omega)
      have hb2 : Hid (Z = (b || (sdT c[j].ty c[k].n || anyIn c[j].ty (c.drop (k + 1))))) := by show _ = _; rw [show Z = _ from hb.out, List.drop_eq_getElem_cons hkl]; rfl
      have hc1 := Lib.hid (rstands_p c[j].ty c[k].n)
      simp only [aggD, Jk, List.map_cons, List.map_nil] at hc1
      clear hb
      generalize sdT c[j].ty c[k].n = q at *
      cases b with
      | true =>
        have hb3 : Hid (Z = (true || anyIn c[j].ty (c.drop (k + 1)))) := by show _ = _; rw [show Z = _ from hb2.out]; rfl
        clear hb2
        refine go_ ?_
        refine PW_drawn [(0, .a), (1, .a), (2, .a), (3, .a), (4, .a), (5, .a), (6, .a), (7, .a), (8, .a), (9, .a), (10, .a), (11, .a), (12, .a), (13, .a), (14, .a)] (by kernel_rfl) (by rfl) (by kernel_rfl) ?_
        refine go_ ?_
        exact ⟨(k + 1, true), ⟨hkl, hb3⟩, by simp only; omega, by repeat (first | exact Js _ | refine Jr (by simp [PF.get]; rfl) (by first | rfl | (simp [*]; done) | fail) ?_), by repeat (first | exact List.Sublist.refl _ | exact List.nil_sublist _ | refine List.Sublist.cons_cons _ ?_ | refine List.Sublist.cons _ ?_)⟩
      | false =>
        have hb3 : Hid (Z = (q || anyIn c[j].ty (c.drop (k + 1)))) := by show _ = _; rw [show Z = _ from hb2.out]; rfl
        clear hb2
        refine go_ ?_
        refine PW_drawn [(0, .a), (1, .a), (2, .a), (3, .a), (4, .a), (5, .a), (6, .a), (7, .a), (8, .a), (9, .a), (10, .a), (11, .a), (12, .a), (13, .a), (14, .a)] (by kernel_rfl) (by rfl) (by kernel_rfl) ?_
        refine go_ ?_
        refine POrd_call_b (hc1.out) ?_
        refine go_ ?_
        exact ⟨(k + 1, q), ⟨hkl, hb3⟩, by simp only; omega, by repeat (first | exact Js _ | refine Jr (by simp [PF.get]; rfl) (by first | rfl | (simp [*]; done) | fail) ?_), by repeat (first | exact List.Sublist.refl _ | exact List.nil_sublist _ | refine List.Sublist.cons_cons _ ?_ | refine List.Sublist.cons _ ?_)⟩
    · have hc2 : ¬ (k : Int) < c.length := by omega
      have hb2 : Hid (Z = b) := by show _ = _; rw [show Z = _ from hb.out, List.drop_of_length_le (by omega)]; unfold anyIn; simp
      rw [show Z = _ from hb2.out] at hR2
      clear hb hb2
      cases b with
      | true =>
        have hR3 : Hid (R = readyG c (c.drop (j + 1)) (j + 1)) := by show _ = _; rw [show R = _ from hR2.out]; rfl
        clear hR2
        refine go_ ?_
        exact ⟨j + 1, ⟨hlt, hR3⟩, by omega, by repeat (first | exact Js _ | refine Jr (by simp [PF.get]; rfl) (by first | rfl | (simp [*]; done) | fail) ?_), by repeat (first | exact List.Sublist.refl _ | exact List.nil_sublist _ | refine List.Sublist.cons_cons _ ?_ | refine List.Sublist.cons _ ?_)⟩
      | false =>
        have hf : Hid (R = some j) := by show _ = _; rw [show R = _ from hR2.out]; rfl
        clear hR2
        refine go_ ?_
        refine Jl (by simp) (by simp only [Try.results72]; rfl) (by simp [resP, St.box?, PF.get, Jm, TyK.agg, *]; rfl) (List.nil_sublist _) ?_
        exact ⟨by rw [hf.out]; rfl, rfl⟩
  · have hc : ¬ (j : Int) < c.length := by omega
    have hf : Hid (R = none) := by rw [show R = _ from hR.out, List.drop_of_length_le (by omega)]; rfl
    refine go_ ?_
    refine Jl (by simp) (by simp only [Try.results72]; rfl) (by simp [resP, St.box?, PF.get, Jm, TyK.agg, *]; rfl) (List.nil_sublist _) ?_
    exact ⟨by rw [hf.out]; rfl, rfl⟩
end Go.Proofs.Ytfnfbbmegdkhjaa

namespace Go.Proofs.Ytfnfbbmegdkhjaa
open Go.RowKit Go.WideMaps
set_option maxRecDepth 100000
set_option maxHeartbeats 16000000 in
theorem rorder22_p (c : List Va) (hl : c.length ≤ 100000) : PCalls Try.prog 20 [.d (.sl (c.map encD))] [] fun p s => p = ordP (orderR c) ∧ s = [] := by
  have hc1 := Lib.hid (rshaped22_p c)
  have hc2 := Lib.hid (ronce22_p c)
  cases hS : shapedV c with
  | false =>
    have HR : Hid (orderR c = ([], 5)) := by show _ = _; unfold orderR; rw [hS]; rfl
    rw [HR.out]
    rw [hS] at hc1
    clear HR hS
    refine PCalls.enter Try.func20 rfl Try.ntmps20 (by simp) ?_
    simp only [argsF]
    refine go_ ?_
    refine Jb (hc1.out) ?_
    refine go_ ?_
    refine Jl (by simp) (by simp only [Try.results20]; rfl) (by simp [resP, St.box?, PF.get, Jm, TyK.agg, *]; rfl) (List.nil_sublist _) ?_
    exact ⟨rfl, rfl⟩
  | true =>
  rw [hS] at hc1
  cases hO : onceV c with
  | false =>
    have HR : Hid (orderR c = ([], 4)) := by show _ = _; unfold orderR; rw [hS, hO]; rfl
    rw [HR.out]
    rw [hO] at hc2
    clear HR hS
    refine PCalls.enter Try.func20 rfl Try.ntmps20 (by simp) ?_
    simp only [argsF]
    refine go_ ?_
    refine Jb (hc1.out) ?_
    refine go_ ?_
    refine Jb (hc2.out) ?_
    refine go_ ?_
    refine Jl (by simp) (by simp only [Try.results20]; rfl) (by simp [resP, St.box?, PF.get, Jm, TyK.agg, *]; rfl) (List.nil_sublist _) ?_
    exact ⟨rfl, rfl⟩
  | true =>
  rw [hO] at hc2
  have HR0 : orderR c = match orderG c.length c with
    | none => ([], 3)
    | some l => (l, 0) := by unfold orderR; rw [hS, hO]; rfl
  obtain ⟨R, hR⟩ : ∃ R, R = orderG c.length c := ⟨_, rfl⟩
  rw [HR0, ← hR]
  have HR := Lib.hid hR
  have HL := Lib.hid hl
  clear hR HR0 hS hO
  refine PCalls.enter Try.func20 rfl Try.ntmps20 (by simp) ?_
  simp only [argsF]
  refine go_ ?_
  refine Jb (hc1.out) ?_
  refine go_ ?_
  refine Jb (hc2.out) ?_
  refine go_ ?_
  refine POps_bs0 ?_ (by decide) (by first | (simp [nev, nevA, nevB, Jo, PF.eval, PF.get, PF.wants, cPV, cCell, PV.rows, evBin, evUn, Jp, evLen, loadA, Jm, TyK.agg, partA, St.box?, St.tok?, St.setBox, St.setTok, fillO, spl, PV.ps, PV.one, Jn, aggD, slD, Jg, Jj, Jh, Ji, Jf, Je, *]; done) | fail) (by simp; rfl) (by rfl) (by simp; rfl) (by rfl) (by decide)
  intro g hg
  try simp only [Rh, Rg, Rf, Ja] at hg
  refine go_ ?_
  refine POps_bs0 ?_ (by decide) (by first | (simp [nev, nevA, nevB, Jo, PF.eval, PF.get, PF.wants, cPV, cCell, PV.rows, evBin, evUn, Jp, evLen, loadA, Jm, TyK.agg, partA, St.box?, St.tok?, St.setBox, St.setTok, fillO, spl, PV.ps, PV.one, Jn, aggD, slD, Jg, Jj, Jh, Ji, Jf, Je, *]; done) | fail) (by simp; rfl) (by rfl) (by simp; rfl) (by rfl) (by decide)
  intro g2 hg2
  try simp only [Rh, Rg, Rf, Ja] at hg2
  refine go_ ?_
  refine POps_app_a c.length ?_ ?_ ?_ ?_
  · simp
  · simp
  · exact rows4 _
  refine go_ ?_
  refine PW_loop (ι := List Va × List Va × Nat) (fun y => Hid (R = (orderG y.2.1.length y.2.1).map (fun l => y.1 ++ l)) ∧ y.1.length + y.2.1.length ≤ 100000) (fun y => [(4, .own g (y.1.map encD)), (5, .own y.2.2 (y.2.1.map encD))]) (fun y => [.tok g 89 4 y.1.length]) (fun y => y.2.1.length) ([], c, g2) ⟨by show _ = _; rw [HR.out]; cases orderG c.length c <;> simp, by simpa using HL.out⟩ ?_ ?_ ?_
  · repeat (first | exact Js _ | refine Jr (by simp [PF.get]; rfl) (by first | rfl | (simp [*]; done) | fail) ?_)
  · repeat (first | exact List.Sublist.refl _ | exact List.nil_sublist _ | refine List.Sublist.cons_cons _ ?_ | refine List.Sublist.cons _ ?_)
  rintro ⟨o, left, g3⟩ ⟨hR, hol⟩
  simp only at hR hol ⊢
  clear HR HL
  by_cases hlt : 0 < left.length
  · have hc : (0 : Int) < left.length := by omega
    have hF := Lib.hid (rready22_p left)
    obtain ⟨m, hm⟩ : ∃ m, left.length = m + 1 := ⟨left.length - 1, by omega⟩
    have hR2 := hR.out
    rw [hm, orderG] at hR2
    cases hq : readyV left with
    | none =>
      rw [hq] at hF hR2
      simp only [Option.map_none] at hR2
      have hf := Lib.hid hR2
      simp only [plI] at hF
      clear hR hR2 hq hm
      refine go_ ?_
      refine Jb (hF.out) ?_
      refine go_ ?_
      refine Jl (by simp) (by simp only [Try.results20]; rfl) (by simp [resP, St.box?, PF.get, Jm, TyK.agg, *]; rfl) (List.nil_sublist _) ?_
      exact ⟨by rw [hf.out]; rfl, rfl⟩
    | some k =>
      rw [hq] at hF hR2
      obtain ⟨v, hv, -⟩ := readyV_some hq
      simp only at hR2
      rw [hv] at hR2
      simp only at hR2
      simp only [plI] at hF
      have hkl : k < left.length := (List.getElem?_eq_some_iff.1 hv).1
      have hk0 : ¬ ((k : Int) < 0) := by omega
      have hk1 : (0 : Int) ≤ (k : Int) := by omega
      have hk2 : (k : Int) < (left.length : Int) := by omega
      have hin := wr64 (n := (k : Int) + 1) (by omega) (by omega)
      have hx : (left.map encD)[k]? = some (encD v) := by rw [List.getElem?_map, hv]; rfl
      have hel : (left.eraseIdx k).length = m := by rw [List.length_eraseIdx, if_pos hkl]; omega
      have hnext : Hid (R = (orderG (left.eraseIdx k).length (left.eraseIdx k)).map (fun l => (o ++ [v]) ++ l)) := by
        show _ = _
        rw [hR2, hel]
        cases orderG m (left.eraseIdx k) <;> simp
      have htk : Hid (List.drop 0 (List.take k (left.map encD)) = (left.map encD).take k) := by show _ = _; rw [List.drop_zero]
      have hdk : Hid (List.drop (k + 1) (List.take left.length (left.map encD)) = (left.map encD).drop (k + 1)) := by
        show _ = _
        rw [List.take_of_length_le (by rw [List.length_map]; exact Nat.le_refl _)]
      have her : Hid ((left.map encD).take k ++ (left.map encD).drop (k + 1) = (left.eraseIdx k).map encD) := by
        show _ = _
        rw [← List.map_take, ← List.map_drop, ← List.map_append, List.eraseIdx_eq_take_drop_succ]
      have hl1 : Hid (((left.map encD).take k).length = k) := by show _ = _; rw [List.length_take, List.length_map]; omega
      have hl2 : Hid (((left.map encD).take k).length + ((left.map encD).drop (k + 1)).length = m) := by
        show _ = _
        rw [List.length_take, List.length_drop, List.length_map]; omega
      have hol2 : o.length ≤ 100000 := by omega
      have hk100 : k ≤ 100000 := by omega
      have hm100 : m ≤ 100000 := by omega
      have HLEN := Lib.hid hm
      have HEL := Lib.hid hel
      have HOL := Lib.hid hol
      have HLT := Lib.hid hkl
      clear hR hR2 hq hv hel hm hol hkl
      refine go_ ?_
      refine Jb (hF.out) ?_
      refine go_ ?_
      refine POps_bs_a ?_
      refine go_ ?_
      refine POps_app_a (o.length + 1) ?_ ?_ ?_ ?_
      · simp
      · exact rows4 _
      · exact rows_one rfl
      refine go_ ?_
      refine PW_drawn [(1, .a), (2, .a), (3, .a), (5, .a), (6, .a), (7, .a), (8, .a), (0, .e), (4, .e), (9, .e), (10, .a)] (by kernel_rfl) (by rfl) (by kernel_rfl) ?_
      refine go_ ?_
      refine POrd_slice 0 k ?_ rfl (by decide) (by first | (simp [nev, nevA, nevB, Jo, PF.eval, PF.get, PF.wants, cPV, cCell, PV.rows, evBin, evUn, Jp, evLen, loadA, Jm, TyK.agg, partA, St.box?, St.tok?, St.setBox, St.setTok, fillO, spl, PV.ps, PV.one, Jn, aggD, slD, Jg, Jj, Jh, Ji, Jf, Je, *]; done) | fail) (by simp; rfl) (by rfl) (by decide) (by simp [nev, nevA, nevB, Jo, PF.eval, PF.get, PF.wants, cPV, cCell, PV.rows, evBin, evUn, Jp, evLen, loadA, Jm, TyK.agg, partA, St.box?, St.tok?, St.setBox, St.setTok, fillO, spl, PV.ps, PV.one, Jn, aggD, slD, Jg, Jj, Jh, Ji, Jf, Je, *]; rfl) (by simp [PV.rows]; rfl) (by first | rfl | (simp [lowOf, PF.eval, PF.get, cPV, cCell, *]; done) | fail) (by first | rfl | (simp [highOf, PF.eval, PF.get, cPV, cCell, *]; done) | fail) (by first | omega | (simp; done) | (simp; omega)) (by first | omega | (simp; done) | (simp; omega)) ?_
      rotate_left
      · exact rows4 _
      rw [htk.out]
      refine go_ ?_
      refine POrd_slice (k + 1) left.length ?_ rfl (by decide) (by first | (simp [nev, nevA, nevB, Jo, PF.eval, PF.get, PF.wants, cPV, cCell, PV.rows, evBin, evUn, Jp, evLen, loadA, Jm, TyK.agg, partA, St.box?, St.tok?, St.setBox, St.setTok, fillO, spl, PV.ps, PV.one, Jn, aggD, slD, Jg, Jj, Jh, Ji, Jf, Je, *]; done) | fail) (by simp; rfl) (by rfl) (by decide) (by simp [nev, nevA, nevB, Jo, PF.eval, PF.get, PF.wants, cPV, cCell, PV.rows, evBin, evUn, Jp, evLen, loadA, Jm, TyK.agg, partA, St.box?, St.tok?, St.setBox, St.setTok, fillO, spl, PV.ps, PV.one, Jn, aggD, slD, Jg, Jj, Jh, Ji, Jf, Je, *]; rfl) (by simp [PV.rows]; rfl) (by first | rfl | (simp [lowOf, PF.eval, PF.get, cPV, cCell, *]; done) | fail) (by first | rfl | (simp [highOf, PF.eval, PF.get, cPV, cCell, *]; done) | fail) (by first | omega | (simp; done) | (simp; omega)) (by first | omega | (simp; done) | (simp; omega)) ?_
      rotate_left
      · exact rows4 _
      rw [hdk.out]
      refine go_ ?_
      refine POrd_bs0 ?_ rfl (by decide) (by first | (simp [nev, nevA, nevB, Jo, PF.eval, PF.get, PF.wants, cPV, cCell, PV.rows, evBin, evUn, Jp, evLen, loadA, Jm, TyK.agg, partA, St.box?, St.tok?, St.setBox, St.setTok, fillO, spl, PV.ps, PV.one, Jn, aggD, slD, Jg, Jj, Jh, Ji, Jf, Je, *]; done) | fail) (by simp; rfl) (by rfl) (by simp; rfl) (by rfl) (by decide)
      intro g4 hg4
      try simp only [Rh, Rg, Rf, Ja] at hg4
      refine go_ ?_
      refine POrd_app_a k ?_ ?_ ?_ ?_
      · show 0 + _ = _
        rw [hl1.out]; omega
      · simp
      · exact fun row h => rows4 _ row (List.mem_of_mem_take h)
      refine go_ ?_
      refine POrd_app_a m ?_ ?_ ?_ ?_
      · exact hl2.out
      · exact fun row h => rows4 _ row (List.mem_of_mem_take h)
      · exact fun row h => rows4 _ row (List.mem_of_mem_drop h)
      rw [her.out]
      refine go_ ?_
      refine ⟨(o ++ [v], left.eraseIdx k, g4), ⟨hnext, by have := HEL.out; have := HLEN.out; have := HOL.out; simp only [List.length_append, List.length_singleton]; omega⟩, by have := HEL.out; have := HLEN.out; simp only; omega, ?_, ?_⟩
      · repeat (first | exact Js _ | refine Jr (by simp [PF.get]; rfl) (by first | rfl | (simp [encD_va]; done) | fail) ?_)
      · simp only [List.length_append, List.length_singleton]
        repeat (first | exact List.Sublist.refl _ | exact List.nil_sublist _ | refine List.Sublist.cons_cons _ ?_ | refine List.Sublist.cons _ ?_)
  · obtain rfl : left = [] := List.length_eq_zero_iff.1 (by omega)
    have hf : Hid (R = some o) := by show _ = _; rw [hR.out]; simp [orderG]
    clear hR
    refine go_ ?_
    refine Jl (by simp) (by simp only [Try.results20]; rfl) (by simp [resP, St.box?, PF.get, Jm, TyK.agg, *]; rfl) (List.nil_sublist _) ?_
    exact ⟨by rw [hf.out]; rfl, rfl⟩
end Go.Proofs.Ytfnfbbmegdkhjaa

namespace Go.Proofs.Ytfnfbbmegdkhjaa
open Go.RowKit Go.WideMaps
set_option maxRecDepth 100000
theorem law22same_p (c w : List Va) (e f : Int) (hl : c.length ≤ 100000) : PCalls Try.prog 21 [.d (.sl (c.map encD)), .d (.v (.int .i64 e)), .d (.sl (w.map encD)), .d (.v (.int .i64 f))] [] fun p s => p = .d (.v (.bool ((e == f) && sameV ceqT c w))) ∧ s = [] := by
  have h1 := Lib.hid (law22of_p c hl)
  have h2 := Lib.hid (rsame22_p c w)
  generalize sameV ceqT c w = q at *
  cases hq : (e == f) with
  | true =>
    rw [Bool.true_and]
    refine PCalls.enter Try.func21 rfl Try.ntmps21 (by simp) ?_
    simp only [argsF]
    refine go_ ?_
    refine Jq (h1.out) ?_
    refine go_ ?_
    refine Jq (h2.out) ?_
    refine go_ ?_
    refine Jl (by simp) (by simp only [Try.results21]; rfl) (by simp [resP, St.box?, PF.get, Jm, TyK.agg, *]; rfl) (List.nil_sublist _) ?_
    exact ⟨by simp [tupP, PV.norm2, PV.norm1, PV.norm0], rfl⟩
  | false =>
    rw [Bool.false_and]
    refine PCalls.enter Try.func21 rfl Try.ntmps21 (by simp) ?_
    simp only [argsF]
    refine go_ ?_
    refine Jl (by simp) (by simp only [Try.results21]; rfl) (by simp [resP, St.box?, PF.get, Jm, TyK.agg, *]; rfl) (List.nil_sublist _) ?_
    exact ⟨rfl, rfl⟩
theorem closedG_drop {c : List Va} {i : Nat} (h : i < c.length) : closedG (c.drop i) = (decide (lsT c[i].ty 0 ≤ 0) && !(anyIn c[i].ty (c.drop i)) && closedG (c.drop (i + 1))) := by
  conv => lhs; rw [List.drop_eq_getElem_cons h]
  rw [closedG, ← List.drop_eq_getElem_cons h]
theorem rightV_yes {c : List Va} (h1 : shapedV c = true) (h2 : onceV c = true) : rightV c = closedG c := by unfold rightV; rw [h1, h2]; rfl
theorem shapedV_sh {c : List Va} (h : shapedV c = true) : ∀ v ∈ c, shapedB v.ty = true := by
  intro v hv
  unfold shapedV at h
  rw [Bool.and_eq_true] at h
  exact fit_shaped (List.all_eq_true.1 h.1 v hv)
theorem loose_sh {t : Tm} (h : shapedB t = true) : looseT t = lsT t 0 := by unfold looseT; rw [if_pos h]
set_option maxHeartbeats 16000000 in
theorem fright_p (c : List Va) (hl : c.length ≤ 100000) : PCalls Try.prog 23 [.d (.sl (c.map encD))] [] fun p s => p = .d (.v (.bool (rightV c))) ∧ s = [] := by
  have hP := Lib.hid (fplaces_p c hl)
  cases hS : shapedV c with
  | false =>
    have HR : Hid (rightV c = false) := by show _ = _; unfold rightV; rw [hS]; rfl
    rw [HR.out]
    rw [hS] at hP
    clear HR hS
    refine PCalls.enter Try.func23 rfl Try.ntmps23 (by simp) ?_
    simp only [argsF]
    refine go_ ?_
    refine Rd 0 0 (hP.out) ?_
    rintro p s (⟨h, -⟩ | ⟨-, rfl, rfl⟩)
    · cases h
    simp only [List.cons_append, List.nil_append, List.append_nil, Rh, Rg, Rf]
    refine go_ ?_
    refine Jl (by simp) (by simp only [Try.results23]; rfl) (by simp [resP, St.box?, PF.get, Jm, TyK.agg, *]; rfl) (List.nil_sublist _) ?_
    exact ⟨rfl, rfl⟩
  | true =>
  rw [hS] at hP
  have hz := atD_size (c.map Va.n).reverse
  rw [List.length_reverse, List.length_map, (List.reverse_perm _).nodup_iff] at hz
  cases hO : onceV c with
  | false =>
    have HR : Hid (rightV c = false) := by show _ = _; unfold rightV; rw [hS, hO]; rfl
    rw [HR.out]
    have hne : ¬ Maps.size (atD (c.map Va.n).reverse) = c.length := by
      intro e
      unfold onceV at hO
      exact absurd (hz.2.1 e) (of_decide_eq_false hO)
    have hb : ((Maps.size (atD (c.map Va.n).reverse) : Int) != (c.length : Int)) = true := by
      rw [bne_iff_ne]; omega
    clear HR hS hz hne
    generalize hzz : Maps.size (atD (c.map Va.n).reverse) = z at *
    refine PCalls.enter Try.func23 rfl Try.ntmps23 (by simp) ?_
    simp only [argsF]
    refine go_ ?_
    refine Rd 0 0 (hP.out) ?_
    rintro p s (⟨-, i, N, rfl, rfl⟩ | ⟨h, -⟩)
    rotate_left
    · cases h
    simp only [List.cons_append, List.nil_append, List.append_nil, Rh, Rg, Rf]
    refine go_ ?_
    refine POps_lenMap (D := atD (c.map Va.n).reverse) z hzz ?_
    refine go_ ?_
    refine Jl (by simp) (by simp only [Try.results23]; rfl) (by simp [resP, St.box?, PF.get, Jm, TyK.agg, *]; rfl) (List.nil_sublist _) ?_
    exact ⟨rfl, rfl⟩
  | true =>
  have hnd : (c.map Va.n).Nodup := by unfold onceV at hO; exact of_decide_eq_true hO
  have hne : Maps.size (atD (c.map Va.n).reverse) = c.length := hz.2.2 hnd
  have hb : ((Maps.size (atD (c.map Va.n).reverse) : Int) != (c.length : Int)) = false := by
    rw [hne]; simp
  have hR0 := rightV_yes hS hO
  have HS := Lib.hid (shapedV_sh hS)
  have HND := Lib.hid hnd
  obtain ⟨R, hR⟩ : ∃ R, R = closedG c := ⟨_, rfl⟩
  rw [hR0, ← hR]
  have HR : Hid (R = closedG (c.drop 0)) := hR
  clear hR hR0 hS hz hO hnd
  generalize hzz : Maps.size (atD (c.map Va.n).reverse) = z at *
  clear hne
  refine PCalls.enter Try.func23 rfl Try.ntmps23 (by simp) ?_
  simp only [argsF]
  refine go_ ?_
  refine Rd 0 0 (hP.out) ?_
  rintro p s (⟨-, i0, N, rfl, rfl⟩ | ⟨h, -⟩)
  rotate_left
  · cases h
  simp only [List.cons_append, List.nil_append, List.append_nil, Rh, Rg, Rf]
  refine go_ ?_
  refine POps_lenMap (D := atD (c.map Va.n).reverse) z hzz ?_
  refine go_ ?_
  refine PW_loop (ι := Nat) (fun y => y ≤ c.length ∧ Hid (R = closedG (c.drop y))) (fun y => [(3, .mp i0), (25, .d (.sl (c.map encD))), (26, .d (.v (.int .i64 c.length))), (27, .d (.v (.int .i64 (y : Int))))]) (fun y => [.obj i0 (MapO Try.prog 3 3 N (atD (c.map Va.n).reverse))]) (fun y => c.length - y) 0 ⟨Nat.zero_le _, HR.out⟩ ?_ ?_ ?_
  · repeat (first | exact Js _ | refine Jr (by simp [PF.get]; rfl) (by first | rfl | (simp [*]; done) | fail) ?_)
  · repeat (first | exact List.Sublist.refl _ | exact List.nil_sublist _ | refine List.Sublist.cons_cons _ ?_ | refine List.Sublist.cons _ ?_)
  rintro j ⟨hj, hR⟩
  clear HR
  by_cases hlt : j < c.length
  · have hx := get_enc hlt
    have hc : (j : Int) < c.length := by omega
    have hn : (0 : Int) ≤ j := by omega
    have hin := wr64 (n := (j : Int) + 1) (by omega) (by omega)
    have hsj := HS.out _ (List.getElem_mem hlt)
    have hR2 := Lib.hid (hR.out.trans (closedG_drop hlt))
    have hc1 := Lib.hid (tLoose_p c[j].ty)
    have hc2 := Lib.hid (tfrees_p c[j].ty)
    rw [loose_sh hsj] at hc1
    simp only [aggD, Jk, List.map_cons, List.map_nil] at hc1 hc2
    have hZ := any_place HND.out hsj j
    have HB := Lib.hid (fun (x : Int) (h : x ∈ enT 8 8 c[j].ty) => fr_bd h)
    have hfl := frees_len c[j].ty
    clear hR hsj
    generalize anyIn c[j].ty (c.drop j) = Z at *
    generalize enT 8 8 c[j].ty = F at *
    generalize lsT c[j].ty 0 = ls at *
    by_cases h0 : ls ≤ 0
    rotate_left
    · have h0' : 0 < ls := by omega
      have hf : Hid (R = false) := by show _ = _; rw [show R = _ from hR2.out, decide_eq_false h0]; rfl
      clear hR2 hZ
      refine go_ ?_
      refine Jd ?_
      intro i2 hi2
      try simp only [Rh, Rg, Rf, Ja] at hi2
      refine go_ ?_
      refine Rc ?_
      refine go_ ?_
      refine Jb (hc1.out) ?_
      refine go_ ?_
      refine Jl (by simp) (by simp only [Try.results23]; rfl) (by simp [resP, St.box?, PF.get, Jm, TyK.agg, *]; rfl) (List.nil_sublist _) ?_
      exact ⟨by rw [hf.out]; rfl, rfl⟩
    have h0' : ¬ 0 < ls := by omega
    have hR3 : Hid (R = (!Z && closedG (c.drop (j + 1)))) := by show _ = _; rw [show R = _ from hR2.out, decide_eq_true h0]; rfl
    have HZ : Hid (Z = (F.drop 0).any (fun n => geP (plF n c 0) j)) := hZ.symm
    clear hR2 hZ h0
    refine go_ ?_
    refine Jd ?_
    intro i2 hi2
    try simp only [Rh, Rg, Rf, Ja] at hi2
    refine go_ ?_
    refine Rc ?_
    refine go_ ?_
    refine Jb (hc1.out) ?_
    refine go_ ?_
    refine Jb (hc2.out) ?_
    refine go_ ?_
    refine PW_loop (ι := Nat) (fun y => y ≤ F.length ∧ Hid (Z = (F.drop y).any (fun n => geP (plF n c 0) j))) (fun y => [(3, .mp i0), (5, .d (.v (.int .i64 (j : Int)))), (25, .d (.sl (c.map encD))), (26, .d (.v (.int .i64 c.length))), (27, .d (.v (.int .i64 (j : Int)))), (38, .d (.sl (F.map encD))), (39, .d (.v (.int .i64 F.length))), (40, .d (.v (.int .i64 (y : Int))))]) (fun y => [.obj i0 (MapO Try.prog 3 3 N (atD (c.map Va.n).reverse))]) (fun y => F.length - y) 0 ⟨Nat.zero_le _, HZ.out⟩ ?_ ?_ ?_
    · repeat (first | exact Js _ | refine Jr (by simp [PF.get]; rfl) (by first | rfl | (simp [*]; done) | fail) ?_)
    · repeat (first | exact List.Sublist.refl _ | exact List.nil_sublist _ | refine List.Sublist.cons_cons _ ?_ | refine List.Sublist.cons _ ?_)
    rintro k ⟨hk, hz⟩
    clear HZ hx
    by_cases hkl : k < F.length
    · have hx := get_enc hkl
      have hc5 : (k : Int) < F.length := by omega
      have hn5 : (0 : Int) ≤ k := by omega
      have hin5 := wr64 (n := (k : Int) + 1) (by omega) (by omega)
      have hkey := Lib.hid (int_key (n := F[k]) (by have := HB.out _ (List.getElem_mem hkl); omega) (by have := HB.out _ (List.getElem_mem hkl); omega))
      have hz2 : Hid (Z = (geP (plF F[k] c 0) j || (F.drop (k + 1)).any (fun n => geP (plF n c 0) j))) := by show _ = _; rw [show Z = _ from hz.out, List.drop_eq_getElem_cons hkl]; rfl
      have hat : Hid ((atD (c.map Va.n).reverse).atKey (.int .i64 F[k]) (.lit (.int .i64 0)) = .lit (.int .i64 (idV (plF F[k] c 0)))) := by show _ = _; rw [atD_at, idx_pl]
      have hhs : Hid (Maps.has (atD (c.map Va.n).reverse) (.int .i64 F[k]) = (plF F[k] c 0).isSome) := by show _ = _; rw [atD_has, idx_pl]
      clear hz
      generalize plF F[k] c 0 = o at *
      refine go_ ?_
      refine POps_lookup2 (D := atD (c.map Va.n).reverse) (idV o) o.isSome Try.underlying3 Try.underlying3 (fun w => Try.zeroValue3 w) hkey.out hat.out hhs.out ?_
      cases o with
      | none =>
        have hz3 : Hid (Z = (F.drop (k + 1)).any (fun n => geP (plF n c 0) j)) := by show _ = _; rw [show Z = _ from hz2.out]; rfl
        clear hz2 hat hhs
        simp only [Option.isSome_none, idV]
        refine go_ ?_
        exact ⟨k + 1, ⟨hkl, hz3⟩, by omega, by repeat (first | exact Js _ | refine Jr (by simp [PF.get]; rfl) (by first | rfl | (simp [*]; done) | fail) ?_), by repeat (first | exact List.Sublist.refl _ | exact List.nil_sublist _ | refine List.Sublist.cons_cons _ ?_ | refine List.Sublist.cons _ ?_)⟩
      | some q =>
        simp only [Option.isSome_some, idV]
        by_cases hjq : j ≤ q
        · have hf : Hid (R = false) := by show _ = _; rw [show R = _ from hR3.out, show Z = _ from hz2.out, show geP (some q) j = decide (j ≤ q) from rfl, decide_eq_true hjq]; rfl
          have hjq' : (j : Int) ≤ q := by omega
          clear hz2 hat hhs hR3
          refine go_ ?_
          refine Jl (by simp) (by simp only [Try.results23]; rfl) (by simp [resP, St.box?, PF.get, Jm, TyK.agg, *]; rfl) (List.nil_sublist _) ?_
          exact ⟨by rw [hf.out]; rfl, rfl⟩
        · have hz3 : Hid (Z = (F.drop (k + 1)).any (fun n => geP (plF n c 0) j)) := by show _ = _; rw [show Z = _ from hz2.out, show geP (some q) j = decide (j ≤ q) from rfl, decide_eq_false hjq]; rfl
          have hjq' : ¬ (j : Int) ≤ q := by omega
          clear hz2 hat hhs
          refine go_ ?_
          exact ⟨k + 1, ⟨hkl, hz3⟩, by omega, by repeat (first | exact Js _ | refine Jr (by simp [PF.get]; rfl) (by first | rfl | (simp [*]; done) | fail) ?_), by repeat (first | exact List.Sublist.refl _ | exact List.nil_sublist _ | refine List.Sublist.cons_cons _ ?_ | refine List.Sublist.cons _ ?_)⟩
    · have hc5 : ¬ (k : Int) < F.length := by omega
      have hz2 : Hid (Z = false) := by show _ = _; rw [show Z = _ from hz.out, List.drop_of_length_le (by omega)]; rfl
      have hR4 : Hid (R = closedG (c.drop (j + 1))) := by show _ = _; rw [show R = _ from hR3.out, show Z = _ from hz2.out]; rfl
      clear hz hz2 hR3
      refine go_ ?_
      exact ⟨j + 1, ⟨hlt, hR4⟩, by omega, by repeat (first | exact Js _ | refine Jr (by simp [PF.get]; rfl) (by first | rfl | (simp [*]; done) | fail) ?_), by repeat (first | exact List.Sublist.refl _ | exact List.nil_sublist _ | refine List.Sublist.cons_cons _ ?_ | refine List.Sublist.cons _ ?_)⟩
  · have hc : ¬ (j : Int) < c.length := by omega
    have hf : Hid (R = true) := by rw [show R = _ from hR.out, List.drop_of_length_le (by omega)]; rfl
    refine go_ ?_
    refine Jl (by simp) (by simp only [Try.results23]; rfl) (by simp [resP, St.box?, PF.get, Jm, TyK.agg, *]; rfl) (List.nil_sublist _) ?_
    exact ⟨by rw [hf.out]; rfl, rfl⟩
end Go.Proofs.Ytfnfbbmegdkhjaa

namespace Go.Proofs.Ytfnfbbmegdkhjaa
open Go.RowKit Go.WideMaps
set_option maxRecDepth 100000
set_option maxHeartbeats 16000000 in
theorem rright22_p (c : List Va) : PCalls Try.prog 24 [.d (.sl (c.map encD))] [] fun p s => p = .d (.v (.bool (rightV c))) ∧ s = [] := by
  have hc1 := Lib.hid (rshaped22_p c)
  have hc2 := Lib.hid (ronce22_p c)
  cases hS : shapedV c with
  | false =>
    have HR : Hid (rightV c = false) := by show _ = _; unfold rightV; rw [hS]; rfl
    rw [HR.out]
    rw [hS] at hc1
    clear HR hS
    refine PCalls.enter Try.func24 rfl Try.ntmps24 (by simp) ?_
    simp only [argsF]
    refine go_ ?_
    refine Jb (hc1.out) ?_
    refine go_ ?_
    refine Jl (by simp) (by simp only [Try.results24]; rfl) (by simp [resP, St.box?, PF.get, Jm, TyK.agg, *]; rfl) (List.nil_sublist _) ?_
    exact ⟨rfl, rfl⟩
  | true =>
  rw [hS] at hc1
  cases hO : onceV c with
  | false =>
    have HR : Hid (rightV c = false) := by show _ = _; unfold rightV; rw [hS, hO]; rfl
    rw [HR.out]
    rw [hO] at hc2
    clear HR hS
    refine PCalls.enter Try.func24 rfl Try.ntmps24 (by simp) ?_
    simp only [argsF]
    refine go_ ?_
    refine Jb (hc1.out) ?_
    refine go_ ?_
    refine Jq (hc2.out) ?_
    refine go_ ?_
    refine Jl (by simp) (by simp only [Try.results24]; rfl) (by simp [resP, St.box?, PF.get, Jm, TyK.agg, *]; rfl) (List.nil_sublist _) ?_
    exact ⟨rfl, rfl⟩
  | true =>
  rw [hO] at hc2
  have hR0 := rightV_yes hS hO
  have HS := Lib.hid (shapedV_sh hS)
  obtain ⟨R, hR⟩ : ∃ R, R = closedG c := ⟨_, rfl⟩
  rw [hR0, ← hR]
  have HR : Hid (R = closedG (c.drop 0)) := hR
  clear hR hR0 hS hO
  refine PCalls.enter Try.func24 rfl Try.ntmps24 (by simp) ?_
  simp only [argsF]
  refine PW_slen (t := 0) (rows := c.map encD) (by simp [PF.get] <;> rfl) rfl fun hml => ?_
  rw [List.length_map] at hml
  unfold maxLen at hml
  refine go_ ?_
  refine Jb (hc1.out) ?_
  refine go_ ?_
  refine Jq (hc2.out) ?_
  refine go_ ?_
  refine PW_loop (ι := Nat) (fun y => y ≤ c.length ∧ Hid (R = closedG (c.drop y))) (fun y => [(0, .d (.sl (c.map encD))), (3, .d (.v (.int .i64 (y : Int))))]) (fun _ => []) (fun y => c.length - y) 0 ⟨Nat.zero_le _, HR.out⟩ ?_ ?_ ?_
  · repeat (first | exact Js _ | refine Jr (by simp [PF.get]; rfl) (by first | rfl | (simp [*]; done) | fail) ?_)
  · repeat (first | exact List.Sublist.refl _ | exact List.nil_sublist _ | refine List.Sublist.cons_cons _ ?_ | refine List.Sublist.cons _ ?_)
  rintro j ⟨hj, hR⟩
  clear HR
  by_cases hlt : j < c.length
  · have hx := get_enc hlt
    have hc : (j : Int) < c.length := by omega
    have hn : (0 : Int) ≤ j := by omega
    have hin := wr64 (n := (j : Int) + 1) (by omega) (by omega)
    have hsj := HS.out _ (List.getElem_mem hlt)
    have hR2 := Lib.hid (hR.out.trans (closedG_drop hlt))
    have hc3 := Lib.hid (rloose_p c[j].ty 0 (shaped_hg hsj).1 (by decide) (by have := (shaped_hg hsj).2.1; omega))
    simp only [aggD, Jk, List.map_cons, List.map_nil] at hc3
    obtain ⟨Z, hZ⟩ : ∃ Z, Z = anyIn c[j].ty (c.drop j) := ⟨_, rfl⟩
    rw [← hZ] at hR2
    have HZ := Lib.hid hZ
    clear hR hsj hZ
    generalize lsT c[j].ty 0 = ls at *
    by_cases h0 : ls ≤ 0
    rotate_left
    · have h0' : 0 < ls := by omega
      have hf : Hid (R = false) := by show _ = _; rw [show R = _ from hR2.out, decide_eq_false h0]; rfl
      clear hR2 HZ
      refine go_ ?_
      refine Jb (hc3.out) ?_
      refine go_ ?_
      refine Jl (by simp) (by simp only [Try.results24]; rfl) (by simp [resP, St.box?, PF.get, Jm, TyK.agg, *]; rfl) (List.nil_sublist _) ?_
      exact ⟨by rw [hf.out]; rfl, rfl⟩
    have h0' : ¬ 0 < ls := by omega
    have hR3 : Hid (R = (!Z && closedG (c.drop (j + 1)))) := by show _ = _; rw [show R = _ from hR2.out, decide_eq_true h0]; rfl
    clear hR2 h0
    refine go_ ?_
    refine Jb (hc3.out) ?_
    refine go_ ?_
    refine PW_loop (ι := Nat) (fun y => y ≤ c.length ∧ Hid (Z = anyIn c[j].ty (c.drop y))) (fun y => [(0, .d (.sl (c.map encD))), (3, .d (.v (.int .i64 (j : Int)))), (4, .d (.v (.int .i64 (y : Int))))]) (fun _ => []) (fun y => c.length - y) j ⟨hj, HZ.out⟩ ?_ ?_ ?_
    · repeat (first | exact Js _ | refine Jr (by simp [PF.get]; rfl) (by first | rfl | (simp [*]; done) | fail) ?_)
    · repeat (first | exact List.Sublist.refl _ | exact List.nil_sublist _ | refine List.Sublist.cons_cons _ ?_ | refine List.Sublist.cons _ ?_)
    rintro k ⟨hk, hz⟩
    clear HZ
    by_cases hkl : k < c.length
    · have hy := get_enc hkl
      have hc5 : (k : Int) < c.length := by omega
      have hn5 : (0 : Int) ≤ k := by omega
      have hin5 := wr64 (n := (k : Int) + 1) (by omega) (by omega)
      have hz2 : Hid (Z = (sdT c[j].ty c[k].n || anyIn c[j].ty (c.drop (k + 1)))) := by show _ = _; rw [show Z = _ from hz.out, List.drop_eq_getElem_cons hkl]; rfl
      have hc4 := Lib.hid (rstands_p c[j].ty c[k].n)
      simp only [aggD, Jk, List.map_cons, List.map_nil] at hc4
      clear hz
      generalize sdT c[j].ty c[k].n = q at *
      cases q with
      | true =>
        have hf : Hid (R = false) := by show _ = _; rw [show R = _ from hR3.out, show Z = _ from hz2.out]; rfl
        clear hz2 hR3
        refine go_ ?_
        refine PW_drawn [(0, .a), (1, .a), (2, .a), (3, .a), (4, .a), (5, .a), (6, .a), (7, .a), (8, .a), (9, .a), (10, .a)] (by kernel_rfl) (by rfl) (by kernel_rfl) ?_
        refine go_ ?_
        refine POrd_call_a (hc4.out) ?_
        refine go_ ?_
        refine Jl (by simp) (by simp only [Try.results24]; rfl) (by simp [resP, St.box?, PF.get, Jm, TyK.agg, *]; rfl) (List.nil_sublist _) ?_
        exact ⟨by rw [hf.out]; rfl, rfl⟩
      | false =>
        have hz3 : Hid (Z = anyIn c[j].ty (c.drop (k + 1))) := by show _ = _; rw [show Z = _ from hz2.out]; rfl
        clear hz2
        refine go_ ?_
        refine PW_drawn [(0, .a), (1, .a), (2, .a), (3, .a), (4, .a), (5, .a), (6, .a), (7, .a), (8, .a), (9, .a), (10, .a)] (by kernel_rfl) (by rfl) (by kernel_rfl) ?_
        refine go_ ?_
        refine POrd_call_a (hc4.out) ?_
        refine go_ ?_
        exact ⟨k + 1, ⟨hkl, hz3⟩, by omega, by repeat (first | exact Js _ | refine Jr (by simp [PF.get]; rfl) (by first | rfl | (simp [*]; done) | fail) ?_), by repeat (first | exact List.Sublist.refl _ | exact List.nil_sublist _ | refine List.Sublist.cons_cons _ ?_ | refine List.Sublist.cons _ ?_)⟩
    · have hc5 : ¬ (k : Int) < c.length := by omega
      have hz2 : Hid (Z = false) := by show _ = _; rw [show Z = _ from hz.out, List.drop_of_length_le (by omega)]; rfl
      have hR4 : Hid (R = closedG (c.drop (j + 1))) := by show _ = _; rw [show R = _ from hR3.out, show Z = _ from hz2.out]; rfl
      clear hz hz2 hR3
      refine go_ ?_
      exact ⟨j + 1, ⟨hlt, hR4⟩, by omega, by repeat (first | exact Js _ | refine Jr (by simp [PF.get]; rfl) (by first | rfl | (simp [*]; done) | fail) ?_), by repeat (first | exact List.Sublist.refl _ | exact List.nil_sublist _ | refine List.Sublist.cons_cons _ ?_ | refine List.Sublist.cons _ ?_)⟩
  · have hc : ¬ (j : Int) < c.length := by omega
    have hf : Hid (R = true) := by rw [show R = _ from hR.out, List.drop_of_length_le (by omega)]; rfl
    refine go_ ?_
    refine Jl (by simp) (by simp only [Try.results24]; rfl) (by simp [resP, St.box?, PF.get, Jm, TyK.agg, *]; rfl) (List.nil_sublist _) ?_
    exact ⟨by rw [hf.out]; rfl, rfl⟩
theorem ceq_refl (t : Tm) : ceqT t t = true := (eqT_iff t t).2 rfl
theorem sameV_refl : ∀ (a : List Va), sameV ceqT a a = true := by
  intro a
  induction a with
  | nil => rfl
  | cons x a ih => rw [sameV, ih, ceq_refl]; simp
theorem order_len {c l : List Va} {e : Int} (h : orderR c = (l, e)) (hc : c.length ≤ 100000) : l.length ≤ 100000 := by
  unfold orderR at h
  cases h1 : shapedV c with
  | false => rw [h1] at h; simp at h; rw [h.1]; exact Nat.zero_le _
  | true =>
    cases h2 : onceV c with
    | false => rw [h1, h2] at h; simp at h; rw [h.1]; exact Nat.zero_le _
    | true =>
      rw [h1, h2] at h
      simp only [Bool.true_eq_false, if_false] at h
      cases h3 : orderG c.length c with
      | none => rw [h3] at h; simp at h; rw [h.1]; exact Nat.zero_le _
      | some q =>
        rw [h3] at h
        simp only [Prod.mk.injEq] at h
        rw [← h.1, (orderG_ok _ _ _ rfl h3).1.length_eq]; exact hc
theorem tight_drop {l : List Va} {j : Nat} (h : j < l.length) : tightV (l.drop j) = (decide (lsT l[j].ty 0 ≤ 0) && tightV (l.drop (j + 1))) := by
  rw [List.drop_eq_getElem_cons h]; rfl
set_option maxHeartbeats 16000000 in
theorem orders_p (c : List Va) : PCalls Try.prog 4 [.d (.sl (c.map encD))] [] fun p s => p = .d (.v (.bool true)) ∧ s = [] := by
  have hA := Lib.hid awake22_p
  have hL1 := Lib.hid (law22light_p c)
  cases h1 : lightB c with
  | false =>
    rw [h1] at hL1
    refine PCalls.enter Try.func4 rfl Try.ntmps4 (by simp) ?_
    simp only [argsF]
    refine go_ ?_
    refine Jb (hL1.out) ?_
    refine go_ ?_
    refine Jb (hA.out) ?_
    refine go_ ?_
    refine Jl (by simp) (by simp only [Try.results4]; rfl) (by simp [resP, St.box?, PF.get, Jm, TyK.agg, *]; rfl) (List.nil_sublist _) ?_
    exact ⟨rfl, rfl⟩
  | true =>
  rw [h1] at hL1
  have hcl : c.length ≤ 100000 := by have := (light_ok h1).1; omega
  have hO := Lib.hid (forder_p c hcl)
  have hof := Lib.hid (law22of_p c hcl)
  have hr := Lib.hid (rorder22_p c hcl)
  obtain ⟨l, e, hle⟩ : ∃ l e, orderR c = (l, e) := ⟨_, _, rfl⟩
  have hll := order_len hle hcl
  have hsm := Lib.hid (law22same_p l l e e hll)
  rw [sameV_refl, beq_self_eq_true, Bool.and_self] at hsm
  rw [hle] at hO hr
  unfold ordP at hO hr
  by_cases he : e = 0
  rotate_left
  · have hne : (e != 0) = true := by rw [bne_iff_ne]; exact he
    clear hle h1 he hcl hll
    refine PCalls.enter Try.func4 rfl Try.ntmps4 (by simp) ?_
    simp only [argsF]
    refine go_ ?_
    refine Jb (hL1.out) ?_
    refine go_ ?_
    refine Jb (hO.out) ?_
    refine go_ ?_
    refine Jb (hof.out) ?_
    refine go_ ?_
    refine Jb (hr.out) ?_
    refine go_ ?_
    refine Jb (hsm.out) ?_
    refine go_ ?_
    refine Jb (hA.out) ?_
    refine go_ ?_
    refine Jl (by simp) (by simp only [Try.results4]; rfl) (by simp [resP, St.box?, PF.get, Jm, TyK.agg, *]; rfl) (List.nil_sublist _) ?_
    exact ⟨rfl, rfl⟩
  subst he
  obtain ⟨hp, hs, h2, h3⟩ := orderR_twice hle
  have hO2 := Lib.hid (forder_p l hll)
  rw [h2] at hO2
  unfold ordP at hO2
  have hRt := Lib.hid (fright_p l hll)
  rw [h3] at hRt
  have hshl := shapedV_sh hs
  have hss := Lib.hid (fsame_p l l)
  rw [same_self (show shV l = true from List.all_eq_true.2 hshl)] at hss
  have HS := Lib.hid hshl
  obtain ⟨R, hR⟩ : ∃ R, R = tightV l := ⟨_, rfl⟩
  rw [← hR] at hRt
  have HR : Hid (R = (true && tightV (l.drop 0))) := hR
  have hll2 : l.length ≤ 100000 := hll
  clear hR hle h1 hcl hll hp hs h2 h3 hshl
  refine PCalls.enter Try.func4 rfl Try.ntmps4 (by simp) ?_
  simp only [argsF]
  refine go_ ?_
  refine Jb (hL1.out) ?_
  refine go_ ?_
  refine Jb (hO.out) ?_
  refine go_ ?_
  refine Jb (hof.out) ?_
  refine go_ ?_
  refine Jb (hr.out) ?_
  refine go_ ?_
  refine Jb (hsm.out) ?_
  refine go_ ?_
  refine Jb (hO2.out) ?_
  refine go_ ?_
  refine PW_loop (ι := Nat × Bool) (fun y => y.1 ≤ l.length ∧ Hid (R = (y.2 && tightV (l.drop y.1)))) (fun y => [(3, .d (.sl (l.map encD))), (7, .d (.sl (l.map encD))), (8, .d (.v (.int .i64 0))), (9, .d (.v (.bool y.2))), (10, .d (.v (.int .i64 (y.1 : Int))))]) (fun _ => []) (fun y => l.length - y.1) (0, true) ⟨Nat.zero_le _, HR.out⟩ ?_ ?_ ?_
  · repeat (first | exact Js _ | refine Jr (by simp [PF.get]; rfl) (by first | rfl | (simp [*]; done) | fail) ?_)
  · repeat (first | exact List.Sublist.refl _ | exact List.nil_sublist _ | refine List.Sublist.cons_cons _ ?_ | refine List.Sublist.cons _ ?_)
  rintro ⟨j, b⟩ ⟨hj, hR⟩
  simp only at hj hR ⊢
  clear HR
  by_cases hlt : j < l.length
  · have hx := get_enc hlt
    have hc : (j : Int) < l.length := by omega
    have hn : (0 : Int) ≤ j := by omega
    have hin := wr64 (n := (j : Int) + 1) (by omega) (by omega)
    have hsj := HS.out _ (List.getElem_mem hlt)
    have hR2 : Hid (R = (b && (decide (lsT l[j].ty 0 ≤ 0) && tightV (l.drop (j + 1))))) := by show _ = _; rw [show R = _ from hR.out, tight_drop hlt]
    have hc3 := Lib.hid (rloose_p l[j].ty 0 (shaped_hg hsj).1 (by decide) (by have := (shaped_hg hsj).2.1; omega))
    have hlb := (ls_bd l[j].ty 0 (shaped_hg hsj).1 (by decide)).1
    simp only [aggD, Jk, List.map_cons, List.map_nil] at hc3
    clear hR hsj
    generalize lsT l[j].ty 0 = ls at *
    cases b with
    | false =>
      have hR3 : Hid (R = (false && tightV (l.drop (j + 1)))) := by show _ = _; rw [show R = _ from hR2.out]; rfl
      clear hR2
      refine go_ ?_
      exact ⟨(j + 1, false), ⟨hlt, hR3⟩, by simp only; omega, by repeat (first | exact Js _ | refine Jr (by simp [PF.get]; rfl) (by first | rfl | (simp [*]; done) | fail) ?_), by repeat (first | exact List.Sublist.refl _ | exact List.nil_sublist _ | refine List.Sublist.cons_cons _ ?_ | refine List.Sublist.cons _ ?_)⟩
    | true =>
      by_cases h0 : ls = 0
      · subst h0
        have hR3 : Hid (R = (true && tightV (l.drop (j + 1)))) := by show _ = _; rw [show R = _ from hR2.out]; rfl
        clear hR2 hlb
        refine go_ ?_
        refine Jq (hc3.out) ?_
        refine go_ ?_
        exact ⟨(j + 1, true), ⟨hlt, hR3⟩, by simp only; omega, by repeat (first | exact Js _ | refine Jr (by simp [PF.get]; rfl) (by first | rfl | (simp [*]; done) | fail) ?_), by repeat (first | exact List.Sublist.refl _ | exact List.nil_sublist _ | refine List.Sublist.cons_cons _ ?_ | refine List.Sublist.cons _ ?_)⟩
      · have hR3 : Hid (R = (false && tightV (l.drop (j + 1)))) := by show _ = _; rw [show R = _ from hR2.out, decide_eq_false (by omega)]; rfl
        have hne : (ls == 0) = false := by rw [beq_eq_false_iff_ne]; exact h0
        clear hR2 hlb h0
        refine go_ ?_
        refine Jq (hc3.out) ?_
        refine go_ ?_
        exact ⟨(j + 1, false), ⟨hlt, hR3⟩, by simp only; omega, by repeat (first | exact Js _ | refine Jr (by simp [PF.get]; rfl) (by first | rfl | (simp [*]; done) | fail) ?_), by repeat (first | exact List.Sublist.refl _ | exact List.nil_sublist _ | refine List.Sublist.cons_cons _ ?_ | refine List.Sublist.cons _ ?_)⟩
  · have hc : ¬ (j : Int) < l.length := by omega
    have hb : Hid (R = b) := by show _ = _; rw [show R = _ from hR.out, List.drop_of_length_le (by omega)]; unfold tightV; simp
    rw [show R = _ from hb.out] at hRt
    clear hR hb
    cases b with
    | true =>
      refine go_ ?_
      refine Jq (hss.out) ?_
      refine go_ ?_
      refine Jq (hRt.out) ?_
      refine go_ ?_
      refine Jq (hA.out) ?_
      refine go_ ?_
      refine Jl (by simp) (by simp only [Try.results4]; rfl) (by simp [resP, St.box?, PF.get, Jm, TyK.agg, *]; rfl) (List.nil_sublist _) ?_
      exact ⟨rfl, rfl⟩
    | false =>
      refine go_ ?_
      refine Jq (hss.out) ?_
      refine go_ ?_
      refine Jq (hRt.out) ?_
      refine go_ ?_
      refine Jq (hA.out) ?_
      refine go_ ?_
      refine Jl (by simp) (by simp only [Try.results4]; rfl) (by simp [resP, St.box?, PF.get, Jm, TyK.agg, *]; rfl) (List.nil_sublist _) ?_
      exact ⟨rfl, rfl⟩
end Go.Proofs.Ytfnfbbmegdkhjaa

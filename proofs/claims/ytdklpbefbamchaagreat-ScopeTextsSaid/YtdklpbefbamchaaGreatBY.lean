import Derived.Test.YtdklpbefbamchaaGreatBV
import Derived.Test.YtdklpbefbamchaaGreatT8
import Derived.Test.YtdklpbefbamchaaGreatBA3
import Derived.Test.YtdklpbefbamchaaGreatBN
import Derived.Test.YtdklpbefbamchaaGreatBUtf
set_option linter.unusedSimpArgs false
set_option linter.unusedVariables false
set_option maxHeartbeats 16000000
set_option maxRecDepth 100000
namespace Go.Proofs.YtdklpbefbamchaaGreat
open Go.RowKit
theorem Qjg {K : Kp} {w : World} {n : Int} {vs : Array Value} (h : RelVs K w [.d (.v (.int .i64 n))] vs) : vs = #[.int .i64 n] := by
  obtain ⟨v, rfl, hv⟩ := h.one
  cases hv with
  | d h => cases h with
    | v h => rfl
theorem Qgp {K : Kp} {w : World} {s : ByteArray} {vs : Array Value} (h : RelVs K w [.d (.v (.string s))] vs) : vs = #[.string s] ∧ s.size ≤ maxLen := by
  obtain ⟨v, rfl, hv⟩ := h.one
  cases hv with
  | d h2 => cases h2 with
    | v h' => exact ⟨rfl, h'⟩
theorem Qke {P : Program} {f : FuncId} {vs : Array Value} {w : World} {x : Value} (h : Calls P f vs w fun e w' => e = .returned x ∧ w = w') : Calls P f vs w fun e w' => e = .returned x ∧ Below w.heap.size w w' :=
 h.mono fun _ _ ⟨h1, h2⟩ => ⟨h1, h2 ▸ Below.refl _ _⟩
theorem blank_p (n : Int) : PCalls Tryz.prog 267 [.d (.v (.int .i64 n))] [] fun p s => p = .d (.v (.bool (Qgh n))) ∧ s = [] :=
 PCalls.flat trivial fun K w vs ha => by rw [Qjg ha]; exact Qke (blank_any n w)
theorem Qjd (n : Int) : PCalls Tryz.prog 274 [.d (.v (.int .i64 n))] [] fun p s => p = .d (.v (.bool (Qar n))) ∧ s = [] :=
 PCalls.flat trivial fun K w vs ha => by rw [Qjg ha]; exact Qke (digit_any n w)
theorem rdigit_p (n : Int) : PCalls Tryz.prog 207 [.d (.v (.int .i64 n))] [] fun p s => p = .d (.v (.bool (Qar n))) ∧ s = [] :=
 PCalls.flat trivial fun K w vs ha => by rw [Qjg ha]; exact Qke (Qhl n w)
theorem letter_p (n : Int) : PCalls Tryz.prog 242 [.d (.v (.int .i64 n))] [] fun p s => p = .d (.v (.bool (Qbn n))) ∧ s = [] :=
 PCalls.flat trivial fun K w vs ha => by rw [Qjg ha]; exact Qke (Qio n w)
theorem rletter_p (n : Int) : PCalls Tryz.prog 206 [.d (.v (.int .i64 n))] [] fun p s => p = .d (.v (.bool (Qbn n))) ∧ s = [] :=
 PCalls.flat trivial fun K w vs ha => by rw [Qjg ha]; exact Qfl n w
theorem keyword_p (s : ByteArray) : PCalls Tryz.prog 240 [.d (.v (.string s))] [] fun p st => p = .d (.v (.bool (kwB s))) ∧ st = [] :=
 PCalls.flat trivial fun K w vs ha => by rw [(Qgp ha).1]; exact Qke (Qll s w)
theorem rkeyword_p (s : ByteArray) : PCalls Tryz.prog 205 [.d (.v (.string s))] [] fun p st => p = .d (.v (.bool (kwB s))) ∧ st = [] :=
 PCalls.flat trivial fun K w vs ha => by rw [(Qgp ha).1]; exact Qke (Qir s w)
theorem Qkv (s : ByteArray) : PCalls Tryz.prog 187 [.d (.v (.string s))] [] fun p st => p = .d (.v (.bool (Qam s))) ∧ st = [] :=
 PCalls.flat trivial fun K w vs ha => by rw [(Qgp ha).1]; exact Qmq s (Qgp ha).2 w
theorem Qjv (s : ByteArray) : PCalls Tryz.prog 153 [.d (.v (.string s))] [] fun p st => p = .d (.v (.bool (Qam s))) ∧ st = [] :=
 PCalls.flat trivial fun K w vs ha => by rw [(Qgp ha).1]; exact Qlm s (Qgp ha).2 w
theorem owns_rel {w : World} {E : TypeId} {l : List Int} {v : Value} {k : IntKind} {base : Nat} (ho : w.ownsRow base E 1 v l.length (l.map (Value.int k))) {K : Nat → Nat → Prop} (hK : ∀ b o u, base ≤ b → w.cell? ⟨b, o, none⟩ = some u → K b o) : RelD K w (.sl (l.map fun n => [.v (.int k n)])) v := by
 rcases ho.2 with ⟨rfl, h0⟩ | ⟨b, cap, cur, rfl, hb, hh, hle, hm, hcs, htake⟩
 ·have : l = [] := List.eq_nil_of_length_eq_zero (by simpa using h0)
  subst this
  exact .nil (Nat.zero_le _)
 ·have hl : (l.map fun n => ([.v (.int k n)] : List D)).length = l.length := by simp
  rw [← hl] at hle htake ⊢
  refine rows_mk (es := 1) hh hle hm (by simp) fun i j row d hi hj => ?_
  have hi' := (List.getElem?_eq_some_iff.1 hi).1
  rw [List.getElem?_map] at hi
  rw [hl] at hi'
  rw [List.getElem?_eq_getElem hi', Option.map_some, Option.some.injEq] at hi
  subst hi
  have hj0 : j = 0 := by
   have := (List.getElem?_eq_some_iff.1 hj).1
   simpa using this
  subst hj0
  simp only [List.getElem?_cons_zero, Option.some.injEq] at hj
  subst hj
  have hc : cur[i * 1 + 0]? = some (.int k l[i]) := by
   have : (cur.toList.take ((l.map fun n => ([.v (.int k n)] : List D)).length * 1))[i]? = some (.int k l[i]) := by
    rw [htake, List.getElem?_map, List.getElem?_eq_getElem hi']; rfl
   rw [List.getElem?_take, if_pos (by simp; omega)] at this
   simpa using this
  refine ⟨hK b _ (.int k l[i]) hb ?_, .int k l[i], hc, .v trivial⟩
  rw [Qcr hh]
  simpa using hc
def sgn (l : List Int) (j : Nat) : Int := l.getD j (-1)
def Qco : List Int → List Int
 | [] => []
 | n :: r => if n = 10 then n :: r else Qco r
def Qau (deep : Int) (l : List Int) : List Int × Bool :=
  match l with
  | [] => ([], deep == 0)
  | n :: r =>
    if n = 123 ∧ r.head? = some 45 then Qau (deep + 1) (r.drop 1)
    else if n = 45 ∧ r.head? = some 125 then (if deep - 1 = 0 then (r.drop 1, true) else Qau (deep - 1) (r.drop 1))
    else Qau deep r
termination_by l.length
decreasing_by all_goals (simp only [List.length_drop, List.length_cons]; omega)
theorem Qjq : ∀ l, Qco l <:+ l
  | [] => List.suffix_refl _
  | n :: r => by
    unfold Qco
    split
    · exact List.suffix_refl _
    · exact (Qjq r).trans (List.suffix_cons _ _)
theorem Qfv (deep : Int) (l : List Int) : (Qau deep l).1 <:+ l := by
  match l with
  | [] => rw [Qau]; exact List.suffix_refl _
  | n :: r =>
    rw [Qau]
    split
    · exact (Qfv _ _).trans ((List.drop_suffix 1 r).trans (List.suffix_cons _ _))
    · split
      · split
        · exact (List.drop_suffix 1 r).trans (List.suffix_cons _ _)
        · exact (Qfv _ _).trans ((List.drop_suffix 1 r).trans (List.suffix_cons _ _))
      · exact (Qfv _ _).trans (List.suffix_cons _ _)
termination_by l.length
decreasing_by all_goals (simp only [List.length_drop, List.length_cons]; omega)
theorem Qku (l : List Int) : (Qco l).length ≤ l.length := (Qjq l).length_le
theorem Qmm (deep : Int) (l : List Int) : (Qau deep l).1.length ≤ l.length := (Qfv deep l).length_le
def Qaf (l : List Int) : List Int × Bool :=
  match l with
  | [] => ([], true)
  | n :: r =>
    if Qgh n then Qaf r
    else if n = 45 ∧ r.head? = some 45 then Qaf (Qco r)
    else if n = 123 ∧ r.head? = some 45 then (if (Qau 1 (r.drop 1)).2 then Qaf (Qau 1 (r.drop 1)).1 else (n :: r, false))
    else (n :: r, true)
termination_by l.length
decreasing_by
 all_goals simp only [List.length_cons]
 all_goals first | omega | (have := Qku r; omega) | (have := Qmm 1 (r.drop 1); simp only [List.length_drop] at this; omega)
theorem Qed (l : List Int) : (Qaf l).1 <:+ l := by
  match l with
  | [] => rw [Qaf]; exact List.suffix_refl _
  | n :: r =>
    rw [Qaf]
    split
    · exact (Qed r).trans (List.suffix_cons _ _)
    · split
      · exact (Qed _).trans ((Qjq r).trans (List.suffix_cons _ _))
      · split
        · split
          · exact (Qed _).trans ((Qfv _ _).trans ((List.drop_suffix 1 r).trans (List.suffix_cons _ _)))
          · exact List.suffix_refl _
        · exact List.suffix_refl _
termination_by l.length
decreasing_by
 all_goals simp only [List.length_cons]
 all_goals first | omega | (have := Qku r; omega) | (have := Qmm 1 (r.drop 1); simp only [List.length_drop] at this; omega)
structure Tk where
 kind : Int
 text : ByteArray
 at_ : Int
instance : Enc Tk := ⟨3, fun t => [.v (.int .i64 t.kind), .str t.text, .v (.int .i64 t.at_)], fun t => rfl⟩
instance : EncOk Tk := ⟨fun b d hd => by
 simp only [Enc.enc, List.mem_cons, List.not_mem_nil, or_false] at hd
 rcases hd with rfl | rfl | rfl
 ·exact .v trivial
 ·exact .str
 ·exact .v trivial⟩
theorem Qaz (t : Tk) : encD t = [.v (.int .i64 t.kind), .v (.string t.text), .v (.int .i64 t.at_)] := rfl
def Qij (l : List UInt8) : Bool := l.all fun c => decide (48 ≤ c.toNat ∧ c.toNat ≤ 57)
def numV (l : List UInt8) : Int := l.foldl (fun n c => 10 * n + ((c.toNat : Int) - 48)) 0
def Qdn (s : ByteArray) : Bool := decide (1 ≤ s.toList.length ∧ s.toList.length ≤ 3) && !(s.toList.headD 0 == 48 && decide (1 < s.toList.length)) && Qij s.toList
def numT (s : ByteArray) : Int := if Qdn s then numV s.toList else 0
def mk1B (n : Int) : Bool := decide (n = 40 ∨ n = 41 ∨ n = 123 ∨ n = 125 ∨ n = 58 ∨ n = 61 ∨ n = 46 ∨ n = 44 ∨ n = 59 ∨ n = 124 ∨ n = 92)
def Qci (n m : Int) : ByteArray × Nat :=
 if mk1B n then (strOfNums [n], 1) else if n = 955 then (⟨#[92]⟩, 1) else if n = 8594 then (⟨#[45, 62]⟩, 1) else if n = 45 ∧ m = 62 then (⟨#[45, 62]⟩, 2) else (⟨#[]⟩, 0)
def Qaj (l : List Int) : Int × ByteArray × Nat × Bool :=
 let n := sgn l 0
 if Qbn n || n == 95 then
  let t := Qay (l.takeWhile Qag)
  if kwB t then (2, t, (l.takeWhile Qag).length, true) else (1, t, (l.takeWhile Qag).length, t.toList == [95] || Qam t)
 else if Qar n then
  let t := Qay (l.takeWhile Qar)
  (3, t, (l.takeWhile Qar).length, Qdn t && !Qag (sgn l (l.takeWhile Qar).length))
 else (4, (Qci n (sgn l 1)).1, (Qci n (sgn l 1)).2, decide (0 < (Qci n (sgn l 1)).2))
theorem innerB_letter {n : Int} (h : Qbn n || n == 95) : Qag n = true := by
 unfold Qag
 simp only [Bool.or_eq_true] at h ⊢
 rcases h with h | h <;> simp [h]
theorem Qia {l : List Int} (h : (Qaj l).2.2.2 = true) (hl : l ≠ []) : 0 < (Qaj l).2.2.1 := by
 obtain ⟨n, r, rfl⟩ := List.exists_cons_of_ne_nil hl
 unfold Qaj at h ⊢
 have h0 : sgn (n :: r) 0 = n := rfl
 simp only [h0] at h ⊢
 split
 ·rename_i h1
  have h2 : 0 < ((n :: r).takeWhile Qag).length := by
   rw [List.takeWhile_cons_of_pos (innerB_letter h1)]; simp
  split <;> exact h2
 ·rename_i h1
  rw [if_neg h1] at h
  split
  ·rename_i h1
   rw [List.takeWhile_cons_of_pos h1]; simp
  ·rename_i h2
   rw [if_neg h2] at h
   simpa using h
def cutR (c : Nat) (l : List Int) : List (Int × ByteArray × Nat) × Option (Int × Nat) :=
 let r := (Qaf l).1
 if (Qaf l).2 = false then ([], some (1, r.length))
 else if hr : r = [] then ([], none)
 else if 8192 ≤ c then ([], some (2, r.length))
 else if hn : (Qaj r).2.2.2 = true then
  let x := cutR (c + 1) (r.drop (Qaj r).2.2.1)
  (((Qaj r).1, (Qaj r).2.1, r.length) :: x.1, x.2)
 else ([], some (1, r.length))
termination_by l.length
decreasing_by
 have h1 := (Qed l).length_le
 have h2 : 0 < (Qaj (Qaf l).1).2.2.1 := Qia hn hr
 have h3 : 0 < (Qaf l).1.length := List.length_pos_iff.2 hr
 show ((Qaf l).1.drop _).length < _
 rw [List.length_drop]
 omega
def offN (l : List Int) (k : Nat) : Int := ((Qcg (l.take k)).length : Nat)
def offL (l : List Int) : List Int := (List.range l.length).map (offN l)
def Qiu (l : List Int) (size : Nat) : List Tk × Int × Int :=
 match (cutR 0 l).2 with
 | some (e, k) => ([], offN l (l.length - k), e)
 | none => ((cutR 0 l).1.map (fun x => ⟨x.1, x.2.1, offN l (l.length - x.2.2)⟩) ++ [⟨5, ⟨#[]⟩, size⟩], size, 0)
def tokA (s : ByteArray) : List Tk × Int × Int := if allE s ≠ 0 then ([], Qfd s, allE s) else Qiu (allS s) s.size
def rdS (i0 : Nat) (l a : List Int) (i : Nat) : St := [.box i0 237 [.d (.sl (l.map encD)), .d (.sl (a.map encD)), .d (.v (.int .i64 i))]]
theorem Qfj {l : List Int} {j : Nat} (h : j < l.length) : sgn l j = l[j] := by unfold sgn; simp [List.getD_eq_getElem?_getD, h]
theorem sgn_ge {l : List Int} {j : Nat} (h : l.length ≤ j) : sgn l j = -1 := by unfold sgn; simp [List.getD_eq_getElem?_getD, h]
theorem Qjw (i0 : Nat) (l a : List Int) (i k : Nat) (kk : Int) (hkk : kk = k) (hl : l.length ≤ 65535) (hi : i ≤ 65535) (hk : k ≤ 2) : PCalls Tryz.prog 268 [.ptr i0 0, .d (.v (.int .i64 kk))] (rdS i0 l a i) fun p s => p = .d (.v (.int .i64 (sgn l (i + k)))) ∧ s = rdS i0 l a i := by
 subst hkk
 obtain ⟨j, hj⟩ : ∃ j, j = i + k := ⟨_, rfl⟩
 have hw : IntKind.i64.wrap ((i : Int) + k) = (j : Int) := by rw [IntWalk.i64_in _ (by omega)]; omega
 rw [← hj]
 clear hj hk
 unfold rdS
 refine pG Tryz.func268 Tryz.ntmps268 ?_
 refine Qal [(0, .a), (1, .a), (2, .a), (3, .b), (4, .a), (5, .a), (6, .a), (7, .a), (8, .a), (9, .b), (10, .a), (11, .a)] (by kernel_rfl) (by rfl) (by kernel_rfl) ?_
 refine go_ ?_
 by_cases h : j < l.length
 ·have hc : ¬ ((l.length : Int) ≤ (j : Int)) := by omega
  have hn : (0 : Int) ≤ (j : Int) := by omega
  have hx := Qaq h
  have hs := Qfj h
  refine go_ ?_
  refine Qal [(0, .a), (1, .a), (2, .a), (3, .b), (4, .a), (5, .a), (6, .a), (7, .b), (8, .a), (9, .a), (10, .a), (11, .a), (12, .a)] (by kernel_rfl) (by rfl) (by kernel_rfl) ?_
  refine go_ ?_
  refine rS (st' := rdS i0 l a i) Tryz.results268 ?_
  exact ⟨by rw [hs]; rfl, rfl⟩
 ·have hc : l.length ≤ j := by omega
  have hs := sgn_ge (l := l) (j := j) (by omega)
  refine go_ ?_
  refine rS (st' := rdS i0 l a i) Tryz.results268 ?_
  exact ⟨by rw [hs]; rfl, rfl⟩
theorem two_p (i0 : Nat) (l a : List Int) (i : Nat) (x y : Int) (hl : l.length ≤ 65535) (hi : i ≤ 65535) : PCalls Tryz.prog 269 [.ptr i0 0, .d (.v (.int .i64 x)), .d (.v (.int .i64 y))] (rdS i0 l a i) fun p s => p = .d (.v (.bool (sgn l i == x && sgn l (i + 1) == y))) ∧ s = rdS i0 l a i := by
 have H0 := Hh (Qjw i0 l a i 0 0 rfl hl hi (by decide))
 have H1 := Hh (Qjw i0 l a i 1 1 rfl hl hi (by decide))
 rw [Nat.add_zero] at H0
 refine pG Tryz.func269 Tryz.ntmps269 ?_
 refine Rf (H0.out) ?_
 rintro _ _ ⟨rfl, rfl⟩
 by_cases h0 : sgn l i = x
 ·refine go_ ?_
  refine Rf (H1.out) ?_
  rintro _ _ ⟨rfl, rfl⟩
  refine go_ ?_
  refine rS (st' := rdS i0 l a i) Tryz.results269 ?_
  exact ⟨by rw [h0]; simp [tupP, PV.norm2]; rfl, rfl⟩
 ·refine go_ ?_
  refine rS (st' := rdS i0 l a i) Tryz.results269 ?_
  exact ⟨by rw [show (sgn l i == x) = false by simpa using h0]; rfl, rfl⟩
def posR (l r : List Int) : Nat := l.length - r.length
theorem Qhd {l r : List Int} (h : r <:+ l) : l.drop (posR l r) = r := (List.suffix_iff_eq_drop.1 h).symm
theorem Qib {l : List Int} {i : Nat} (h : i ≤ l.length) : posR l (l.drop i) = i := by unfold posR; rw [List.length_drop]; omega
theorem Qjh (l r : List Int) : posR l r ≤ l.length := Nat.sub_le _ _
theorem line_p (i0 : Nat) (l a : List Int) (i : Nat) (hl : l.length ≤ 65535) (hi : i ≤ l.length) : PCalls Tryz.prog 270 [.ptr i0 0] (rdS i0 l a i) fun p s => p = .tup [] ∧ s = rdS i0 l a (posR l (Qco (l.drop i))) := by
 refine pG Tryz.func270 Tryz.ntmps270 ?_
 refine Qai (ι := Nat) (fun j => j ≤ l.length ∧ Qco (l.drop j) = Qco (l.drop i)) (fun _ => [(0, .ptr i0 0)]) (fun j => rdS i0 l a j) (fun j => l.length - j) i ⟨hi, rfl⟩ ?_ ?_ ?_
 ·exact sU
 ·exact dR
 ·rintro j ⟨hj, hJ⟩
  have HJ := Hh hJ
  have H0 := Hh (Qjw i0 l a j 0 0 rfl hl (by omega) (by decide))
  rw [Nat.add_zero] at H0
  clear hJ
  unfold rdS
  by_cases h : j < l.length
  ·have hs := Qfj h
   have hc : (j : Int) < (l.length : Int) := by omega
   have hd := Hh (List.drop_eq_getElem_cons h)
   have hin := Qih h (by omega)
   by_cases h10 : l[j] = 10
   ·have HE := Hh (show posR l (Qco (l.drop i)) = j by rw [← HJ.out, hd.out, Qco, if_pos h10, ← hd.out, Qib hj])
    refine go_ ?_
    refine Qal [(0, .a), (1, .a), (2, .a), (3, .b), (4, .a), (5, .a), (6, .a), (7, .b), (8, .a), (9, .a), (10, .a), (11, .a), (12, .e), (13, .a), (14, .a)] (by kernel_rfl) (by rfl) (by kernel_rfl) ?_
    refine go_ ?_
    refine Qlx (H0.out) ?_
    rintro _ _ ⟨rfl, rfl⟩
    refine go_ ?_
    refine rS (st' := rdS i0 l a j) Tryz.results270 ?_
    exact ⟨rfl, by rw [HE.out]; rfl⟩
   ·have HE := Hh (show Qco (l.drop (j + 1)) = Qco (l.drop i) by rw [← HJ.out, hd.out, Qco, if_neg h10])
    refine go_ ?_
    refine Qal [(0, .a), (1, .a), (2, .a), (3, .b), (4, .a), (5, .a), (6, .a), (7, .b), (8, .a), (9, .a), (10, .a), (11, .a), (12, .e), (13, .a), (14, .a)] (by kernel_rfl) (by rfl) (by kernel_rfl) ?_
    refine go_ ?_
    refine Qlx (H0.out) ?_
    rintro _ _ ⟨rfl, rfl⟩
    unfold rdS
    refine go_ ?_
    refine Qaa ?_
    refine ⟨j + 1, ⟨by omega, HE.out⟩, by omega, ?_, ?_⟩
    ·exact sU
    ·exact dR
  ·obtain rfl : j = l.length := by omega
   have HE := Hh (show posR l (Qco (l.drop i)) = l.length by rw [← HJ.out, List.drop_length]; rfl)
   refine go_ ?_
   refine Qal [(0, .a), (1, .a), (2, .a), (3, .b), (4, .a), (5, .a), (6, .a), (7, .b), (8, .a), (9, .a), (10, .a), (11, .a), (12, .e), (13, .a), (14, .a)] (by kernel_rfl) (by rfl) (by kernel_rfl) ?_
   refine go_ ?_
   refine rS (st' := rdS i0 l a l.length) Tryz.results270 ?_
   exact ⟨rfl, by rw [HE.out]; rfl⟩
theorem Qnc {l : List Int} {j : Nat} (h : j + 1 < l.length) : (l.drop (j + 1)).head? = some l[j + 1] := by rw [List.drop_eq_getElem_cons h]; rfl
theorem Qnj {l : List Int} {j : Nat} {d : Int} (h : j < l.length) (ht : (sgn l j == 123 && sgn l (j + 1) == 45) = true) : Qau d (l.drop j) = Qau (d + 1) (l.drop (j + 2)) ∧ j + 2 ≤ l.length := by
 simp only [Bool.and_eq_true, beq_iff_eq] at ht
 have h1 : j + 1 < l.length := by
  rcases Nat.lt_or_ge (j + 1) l.length with h1 | h1
  ·exact h1
  ·rw [sgn_ge h1] at ht; exact absurd ht.2 (by decide)
 rw [Qfj h, Qfj h1] at ht
 refine ⟨?_, h1⟩
 rw [List.drop_eq_getElem_cons h, Qau, if_pos ⟨ht.1, by rw [Qnc h1, ht.2]⟩, List.drop_drop]
theorem nest_shut {l : List Int} {j : Nat} {d : Int} (h : j < l.length) (ht : (sgn l j == 45 && sgn l (j + 1) == 125) = true) : Qau d (l.drop j) = (if d - 1 = 0 then (l.drop (j + 2), true) else Qau (d - 1) (l.drop (j + 2))) ∧ j + 2 ≤ l.length := by
 simp only [Bool.and_eq_true, beq_iff_eq] at ht
 have h1 : j + 1 < l.length := by
  rcases Nat.lt_or_ge (j + 1) l.length with h1 | h1
  ·exact h1
  ·rw [sgn_ge h1] at ht; exact absurd ht.2 (by decide)
 rw [Qfj h, Qfj h1] at ht
 refine ⟨?_, h1⟩
 rw [List.drop_eq_getElem_cons h, Qau, if_neg (by rw [ht.1]; simp), if_pos ⟨ht.1, by rw [Qnc h1, ht.2]⟩, List.drop_drop]
theorem Qhx {l : List Int} {j : Nat} {x y : Int} (h : j < l.length) (hy : y ≠ -1) : (l[j] = x ∧ (l.drop (j + 1)).head? = some y) ↔ (sgn l j == x && sgn l (j + 1) == y) = true := by
 simp only [Bool.and_eq_true, beq_iff_eq, Qfj h]
 rcases Nat.lt_or_ge (j + 1) l.length with h1 | h1
 ·rw [Qnc h1, Qfj h1]; simp
 ·rw [List.drop_of_length_le h1, sgn_ge h1]
  simp only [List.head?_nil, reduceCtorEq, and_false, false_iff, not_and]
  intro _ e; exact hy e.symm
theorem nest_else {l : List Int} {j : Nat} {d : Int} (h : j < l.length) (h1 : (sgn l j == 123 && sgn l (j + 1) == 45) = false) (h2 : (sgn l j == 45 && sgn l (j + 1) == 125) = false) : Qau d (l.drop j) = Qau d (l.drop (j + 1)) := by
 rw [List.drop_eq_getElem_cons h, Qau, if_neg, if_neg]
 ·rw [Qhx h (by decide), h2]; simp
 ·rw [Qhx h (by decide), h1]; simp
theorem Qgi {x : Int} (h1 : -70000 ≤ x) (h2 : x ≤ 70000) : IntKind.i64.wrap x = x := IntWalk.i64_in _ (by omega)
theorem nested_p (i0 : Nat) (l a : List Int) (i : Nat) (hl : l.length ≤ 65535) (hi : i ≤ l.length) : PCalls Tryz.prog 271 [.ptr i0 0] (rdS i0 l a i) fun p s => p = .d (.v (.bool (Qau 0 (l.drop i)).2)) ∧ s = rdS i0 l a (posR l (Qau 0 (l.drop i)).1) := by
  refine pG Tryz.func271 Tryz.ntmps271 ?_
  refine PW_scope ?_
  refine go_ ?_
  refine Qai (ι := Nat × Int) (fun x => x.1 ≤ l.length ∧ Qau x.2 (l.drop x.1) = Qau 0 (l.drop i) ∧ -(x.1 : Int) ≤ x.2 ∧ x.2 ≤ x.1) (fun x => [(0, .ptr i0 0), (3, .d (.v (.int .i64 x.2)))]) (fun x => rdS i0 l a x.1) (fun x => l.length - x.1) (i, 0) ⟨hi, rfl, by simp only; omega, by simp only; omega⟩ ?_ ?_ ?_
  · exact sU
  · exact dR
  · rintro ⟨j, d⟩ ⟨hj, hJ, hd1, hd2⟩
    simp only at hj hJ hd1 hd2 ⊢
    have HJ := Hh hJ
    clear hJ
    have H0 := Hh (two_p i0 l a j 123 45 hl (by omega))
    have H1 := Hh (two_p i0 l a j 45 125 hl (by omega))
    unfold rdS
    by_cases h : j < l.length
    · have hc : (j : Int) < (l.length : Int) := by omega
      refine go_ ?_
      refine Qal [(0, .a), (1, .a), (2, .a), (3, .b), (4, .a), (5, .a), (6, .a), (7, .b), (8, .a), (9, .a)] (by kernel_rfl) (by rfl) (by kernel_rfl) ?_
      refine go_ ?_
      refine Rf (H0.out) ?_
      rintro _ _ ⟨rfl, rfl⟩
      have hin1 : IntKind.i64.wrap ((j : Int) + 1) = ((j + 1 : Nat) : Int) := Qih h (by omega)
      have hin2 : IntKind.i64.wrap ((j : Int) + 2) = ((j + 2 : Nat) : Int) := by rw [Qgi (by omega) (by omega)]; omega
      have hp := Qgi (x := d + 1) (by omega) (by omega)
      have hm := Qgi (x := d - 1) (by omega) (by omega)
      cases h1 : (sgn l j == 123 && sgn l (j + 1) == 45) with
      | true =>
        obtain ⟨e1, e2⟩ := Qnj (d := d) h h1
        have HE := Hh e1
        clear e1 h1
        unfold rdS
        refine go_ ?_
        refine Qaa ?_
        refine ⟨(j + 2, d + 1), ⟨e2, by rw [← HE.out]; exact HJ.out, by simp only; omega, by simp only; omega⟩, by simp only; omega, ?_, ?_⟩
        · exact sU
        · exact dR
      | false =>
        have HF := Hh h1
        clear h1
        refine go_ ?_
        refine Rf (H1.out) ?_
        rintro _ _ ⟨rfl, rfl⟩
        cases h2 : (sgn l j == 45 && sgn l (j + 1) == 125) with
        | true =>
          obtain ⟨e1, e2⟩ := nest_shut (d := d) h h2
          by_cases hz : d - 1 = 0
          · rw [if_pos hz, HJ.out] at e1
            have HE := Hh e1
            obtain rfl : d = 1 := by omega
            have hm0 : IntKind.i64.wrap 0 = 0 := by decide
            clear e1 h2 hz
            unfold rdS
            refine go_ ?_
            refine Qaa ?_
            refine rS (st' := rdS i0 l a (j + 2)) Tryz.results271 ?_
            exact ⟨by rw [HE.out]; rfl, by rw [HE.out, Qib e2]; rfl⟩
          · rw [if_neg hz, HJ.out] at e1
            have hz' : ¬ d = 1 := by omega
            have HE := Hh e1
            clear e1 h2
            unfold rdS
            refine go_ ?_
            refine Qaa ?_
            refine ⟨(j + 2, d - 1), ⟨e2, HE.out.symm, by simp only; omega, by simp only; omega⟩, by simp only; omega, ?_, ?_⟩
            · exact sU
            · exact dR
        | false =>
          have HE := Hh (nest_else (d := d) h HF.out h2)
          clear h2
          unfold rdS
          refine go_ ?_
          refine Qaa ?_
          refine ⟨(j + 1, d), ⟨h, by rw [← HE.out]; exact HJ.out, by simp only; omega, by simp only; omega⟩, by simp only; omega, ?_, ?_⟩
          · exact sU
          · exact dR
    · obtain rfl : j = l.length := by omega
      have HE := Hh (show Qau 0 (l.drop i) = ([], d == 0) by rw [← HJ.out, List.drop_length, Qau])
      refine go_ ?_
      refine Qal [(0, .a), (1, .a), (2, .a), (3, .b), (4, .a), (5, .a), (6, .a), (7, .b), (8, .a), (9, .a)] (by kernel_rfl) (by rfl) (by kernel_rfl) ?_
      refine go_ ?_
      refine rS (st' := rdS i0 l a l.length) Tryz.results271 ?_
      exact ⟨by rw [HE.out]; rfl, by rw [HE.out]; rfl⟩
theorem inner_p (n : Int) : PCalls Tryz.prog 273 [.d (.v (.int .i64 n))] [] fun p s => p = .d (.v (.bool (Qag n))) ∧ s = [] := by
  have HI : Qag n = (Qbn n || Qar n || n == 95 || n == 39) := rfl
  refine pG Tryz.func273 Tryz.ntmps273 ?_
  refine Jc (letter_p n) ?_
  cases h1 : Qbn n with
  | true =>
    refine go_ ?_
    refine rT Tryz.results273 ?_
    exact ⟨by rw [HI, h1]; rfl, rfl⟩
  | false =>
    refine go_ ?_
    refine Jr (Qjd n) ?_
    cases h2 : Qar n with
    | true =>
      refine go_ ?_
      refine rT Tryz.results273 ?_
      exact ⟨by rw [HI, h1, h2]; rfl, rfl⟩
    | false =>
      by_cases h3 : n = 95
      · refine go_ ?_
        refine rT Tryz.results273 ?_
        exact ⟨by rw [HI, h1, h2, h3]; rfl, rfl⟩
      · by_cases h4 : n = 39
        · refine go_ ?_
          refine rT Tryz.results273 ?_
          exact ⟨by rw [HI, h1, h2, h4]; rfl, rfl⟩
        · refine go_ ?_
          refine rT Tryz.results273 ?_
          exact ⟨by rw [HI, h1, h2, show (n == 95) = false by simpa using h3, show (n == 39) = false by simpa using h4]; rfl, rfl⟩
theorem relD_len {K : Nat → Nat → Prop} {w : World} {rows : List (List D)} {v : Value} (h : RelD K w (.sl rows) v) : rows.length ≤ maxLen := by
 cases h with
 | nil _ => exact Nat.zero_le _
 | sl vals h1 h2 => omega
theorem relD_none {K : Nat → Nat → Prop} {w : World} {rows : List (List D)} {n cap : Nat} (h : RelD K w (.sl rows) (.slice none n cap)) : rows = [] := by
 cases h with
 | nil _ => rfl
theorem tupTwo {K : Kp} {w : World} {p q : PV} {v u : Value} (h1 : RelV K w p v) (h2 : RelV K w q u) : RelV K w (.tup [p, q]) (.tuple #[v, u]) := by
  refine .tup rfl fun i p v hp hv => ?_
  match i with
  | 0 =>
    have e1 := Option.some.inj hp
    have e2 := Option.some.inj hv
    subst e1; subst e2; exact h1
  | 1 =>
    have e1 := Option.some.inj hp
    have e2 := Option.some.inj hv
    subst e1; subst e2; exact h2
  | n + 2 => simp at hp
theorem slc_int {K : Nat → Nat → Prop} {w : World} {l : List Int} {v : Value} (h : RelD K w (.sl (l.map encD)) v) : Slc w v (l.map (Value.int .i64)) := by
  obtain ⟨xs, ⟨h1, _, h3⟩, a, cap, rfl, h4⟩ := h.rv (es := 1) (by decide) (Qki rfl)
  have hx : xs = l.map (Value.int .i64) := by
    refine List.ext_getElem? fun i => ?_
    rcases Nat.lt_or_ge i l.length with hi | hi
    · obtain ⟨x, h5, h6⟩ := h3 i 0 (encD l[i]) (.v (.int .i64 l[i])) (Qaq hi) rfl
      rw [Nat.mul_one, Nat.add_zero] at h5
      rw [h5, List.getElem?_map, List.getElem?_eq_getElem hi]
      cases h6 with
      | v _ => rfl
    · rw [List.getElem?_eq_none (by rw [h1]; simpa using hi), List.getElem?_eq_none (by simpa using hi)]
  refine ⟨a, cap, by simp, ?_, fun hne => ?_⟩
  · have := relD_len h
    simpa using this
  · cases a with
    | none =>
      exfalso
      have := relD_none h
      exact hne (by rw [List.map_eq_nil_iff.1 this]; rfl)
    | some ad =>
      have hr : l.map encD ≠ [] := by
        intro e; apply hne
        have := congrArg List.length e
        rw [List.eq_nil_of_length_eq_zero (by simpa using this : l.length = 0)]; rfl
      have hxne : 0 < xs.length := by rw [hx]; exact List.length_pos_iff.2 hne
      have h5 := (h4 ad rfl 0 xs[0] (List.getElem?_eq_getElem hxne)).2 hr
      obtain ⟨b, o, sp⟩ := ad
      obtain rfl : sp = none := h5.2
      refine ⟨b, o, rfl, fun i hi => ?_⟩
      rw [← hx] at hi ⊢
      have h6 := (h4 _ rfl i xs[i] (List.getElem?_eq_getElem hi)).1
      rw [Qes] at h6
      rw [List.getElem?_eq_getElem hi, ← h6]
theorem join_p (l : List Int) : PCalls Tryz.prog 298 [.d (.sl (l.map encD))] [] fun p s => p = .tup [.d (.v (.string (Qay l))), .d (.v (.int .i64 (Qfe l)))] ∧ s = [] := by
  refine PCalls.data fun K w vs ha => ?_
  obtain ⟨v, rfl, hv⟩ := ha.one
  cases hv with
  | d hv =>
    refine (join_any l v w (slc_int hv)).mono ?_
    rintro e w' ⟨rfl, hb⟩
    refine ⟨_, rfl, hb, fun K' _ => tupTwo (.d (.v ?_)) (.d (.v trivial))⟩
    show (Qay l).size ≤ maxLen
    unfold Qay
    split
    · rename_i h
      rw [strOfNums_size]
      unfold Qfe at h
      split at h
      · split at h
        · cases h
        · rw [maxLen_v]; omega
      · cases h
    · exact Nat.zero_le _
theorem enc_len (n : Int) : (enc n).size ≤ 4 := by rw [Qkr]; exact (encL_len n).2
theorem put_p (n : Int) : PCalls Tryz.prog 266 [.d (.v (.int .i64 n))] [] fun p s => p = .tup [.d (.v (.string (putS n))), .d (.v (.int .i64 (putE n)))] ∧ s = [] := by
 refine PCalls.data fun K w vs ha => ?_
 rw [Qjg ha]
 refine (put_any n w).mono ?_
 rintro e w' ⟨rfl, hb⟩
 refine ⟨_, rfl, hb, fun K' _ => tupTwo (.d (.v ?_)) (.d (.v trivial))⟩
 show (putS n).size ≤ maxLen
 unfold putS
 split
 ·have := enc_len n; rw [maxLen_v]; omega
 ·exact Nat.zero_le _
theorem tup3 {K : Kp} {w : World} {p q r : PV} {v u x : Value} (h1 : RelV K w p v) (h2 : RelV K w q u) (h3 : RelV K w r x) : RelV K w (.tup [p, q, r]) (.tuple #[v, u, x]) := by
  refine .tup rfl fun i p v hp hv => ?_
  match i with
  | 0 =>
    have e1 := Option.some.inj hp
    have e2 := Option.some.inj hv
    subst e1; subst e2; exact h1
  | 1 =>
    have e1 := Option.some.inj hp
    have e2 := Option.some.inj hv
    subst e1; subst e2; exact h2
  | 2 =>
    have e1 := Option.some.inj hp
    have e2 := Option.some.inj hv
    subst e1; subst e2; exact h3
  | n + 3 => simp at hp
theorem uall_p (s : ByteArray) : PCalls Tryz.prog 218 [.d (.v (.string s))] [] fun p st => p = .tup [.d (.sl ((allS s).map encD)), .d (.v (.int .i64 (Qfd s))), .d (.v (.int .i64 (allE s)))] ∧ st = [] := by
 refine PCalls.data fun K w vs ha => ?_
 rw [(Qgp ha).1]
 refine (all_any s (Qgp ha).2 w).mono ?_
 rintro e w' ⟨v, rfl, ho, hb⟩
 exact ⟨_, rfl, hb, fun K' hK => tup3 (.d (owns_rel ho hK)) (.d (.v trivial)) (.d (.v trivial))⟩
theorem skip_blank {l : List Int} {j : Nat} (h : j < l.length) (hb : Qgh l[j] = true) : Qaf (l.drop j) = Qaf (l.drop (j + 1)) := by
 rw [List.drop_eq_getElem_cons h, Qaf, if_pos hb]
theorem blank_not {n m : Int} (h : n = m) (hm : Qgh m = false) : ¬ Qgh n = true := by subst h; simp [hm]
theorem skip_line {l : List Int} {j : Nat} (h : j < l.length) (ht : (sgn l j == 45 && sgn l (j + 1) == 45) = true) : Qaf (l.drop j) = Qaf (Qco (l.drop j)) ∧ Qco (l.drop j) = Qco (l.drop (j + 1)) := by
 have h2 := (Qhx h (by decide)).2 ht
 have e : Qco (l.drop j) = Qco (l.drop (j + 1)) := by rw [List.drop_eq_getElem_cons h, Qco, if_neg (by rw [h2.1]; decide)]
 refine ⟨?_, e⟩
 rw [e, List.drop_eq_getElem_cons h, Qaf, if_neg (blank_not h2.1 (by decide)), if_pos h2]
theorem skip_nest {l : List Int} {j : Nat} (h : j < l.length) (ht : (sgn l j == 123 && sgn l (j + 1) == 45) = true) : (Qaf (l.drop j) = if (Qau 0 (l.drop j)).2 then Qaf (Qau 0 (l.drop j)).1 else (l.drop j, false)) ∧ (Qau 0 (l.drop j)).1.length < (l.drop j).length := by
 have h2 := (Qhx h (by decide)).2 ht
 obtain ⟨e1, e2⟩ := Qnj (d := 0) h ht
 constructor
 ·rw [e1]
  conv => lhs; rw [List.drop_eq_getElem_cons h, Qaf, if_neg (blank_not h2.1 (by decide)), if_neg (by rw [h2.1]; simp), if_pos h2, List.drop_drop]
  rw [← List.drop_eq_getElem_cons h]; rfl
 ·rw [e1]
  have := Qmm (0 + 1) (l.drop (j + 2))
  simp only [List.length_drop] at this ⊢
  omega
theorem skip_else {l : List Int} {j : Nat} (h : j < l.length) (hb : Qgh l[j] = false) (h1 : (sgn l j == 45 && sgn l (j + 1) == 45) = false) (h2 : (sgn l j == 123 && sgn l (j + 1) == 45) = false) : Qaf (l.drop j) = (l.drop j, true) := by
 conv => lhs; rw [List.drop_eq_getElem_cons h, Qaf, if_neg (by simp [hb]), if_neg (by rw [Qhx h (by decide), h1]; simp), if_neg (by rw [Qhx h (by decide), h2]; simp)]
 rw [← List.drop_eq_getElem_cons h]
def skipP (i0 : Nat) (l a : List Int) (r : List Int) (p : PV) (s : St) : Prop :=
 ((Qaf r).2 = true ∧ p = .tup [.d (.v (.int .i64 0)), .d (.v (.bool true))] ∧ s = rdS i0 l a (posR l (Qaf r).1)) ∨
 ((Qaf r).2 = false ∧ p = .tup [.d (.v (.int .i64 (a.getD (posR l (Qaf r).1) 0))), .d (.v (.bool false))] ∧ ∃ j, s = rdS i0 l a j)
theorem skip_p (i0 : Nat) (l a : List Int) (i : Nat) (hl : l.length ≤ 65535) (ha : a.length = l.length) (hi : i ≤ l.length) : PCalls Tryz.prog 220 [.ptr i0 0] (rdS i0 l a i) (skipP i0 l a (l.drop i)) := by
  have HA := Hh ha
  clear ha
  refine pG Tryz.func220 Tryz.ntmps220 ?_
  refine Qai (ι := Nat) (fun j => j ≤ l.length ∧ Qaf (l.drop j) = Qaf (l.drop i)) (fun _ => [(0, .ptr i0 0)]) (fun j => rdS i0 l a j) (fun j => l.length - j) i ⟨hi, rfl⟩ ?_ ?_ ?_
  · exact sU
  · exact dR
  · rintro j ⟨hj, hJ⟩
    have HJ := Hh hJ
    clear hJ
    have H0 := Hh (Qjw i0 l a j 0 0 rfl hl (by omega) (by decide))
    rw [Nat.add_zero] at H0
    have H1 := Hh (two_p i0 l a j 45 45 hl (by omega))
    have H2 := Hh (two_p i0 l a j 123 45 hl (by omega))
    unfold rdS
    by_cases h : j < l.length
    · have hc : (j : Int) < (l.length : Int) := by omega
      have hin := Qih h (by omega)
      have hs := Hh (Qfj h)
      refine go_ ?_
      refine Qal [(0, .a), (1, .a), (2, .a), (3, .b), (4, .a), (5, .a), (6, .a), (7, .b), (8, .a), (9, .a)] (by kernel_rfl) (by rfl) (by kernel_rfl) ?_
      refine go_ ?_
      refine Rf (H0.out) ?_
      rintro _ _ ⟨rfl, rfl⟩
      refine go_ ?_
      refine Jc (blank_p (sgn l j)) ?_
      cases hb : Qgh (sgn l j) with
      | true =>
        have HE := Hh (skip_blank h (by rw [← hs.out]; exact hb))
        clear hb
        unfold rdS
        refine go_ ?_
        refine Qaa ?_
        refine ⟨j + 1, ⟨h, by rw [← HE.out]; exact HJ.out⟩, by omega, ?_, ?_⟩
        · exact sU
        · exact dR
      | false =>
        have HB := Hh hb
        clear hb
        refine go_ ?_
        refine Rf (H1.out) ?_
        rintro _ _ ⟨rfl, rfl⟩
        cases h1 : (sgn l j == 45 && sgn l (j + 1) == 45) with
        | true =>
          have HE := Hh (skip_line h h1)
          have H3 := Hh (line_p i0 l a j hl hj)
          clear h1
          refine go_ ?_
          refine Rf (H3.out) ?_
          rintro _ _ ⟨rfl, rfl⟩
          refine go_ ?_
          have hsuf : Qco (l.drop j) <:+ l := (Qjq _).trans (List.drop_suffix _ _)
          refine ⟨posR l (Qco (l.drop j)), ⟨Qjh _ _, ?_⟩, ?_, ?_, ?_⟩
          · rw [Qhd hsuf, ← HE.out.1]; exact HJ.out
          · have h4 := Qku (l.drop (j + 1))
            rw [HE.out.2]
            unfold posR
            rw [List.length_drop] at h4
            omega
          · exact sU
          · exact dR
        | false =>
          have HF := Hh h1
          clear h1
          refine go_ ?_
          refine Rf (H2.out) ?_
          rintro _ _ ⟨rfl, rfl⟩
          cases h2 : (sgn l j == 123 && sgn l (j + 1) == 45) with
          | true =>
            have HE := Hh (skip_nest h h2)
            have H3 := Hh (nested_p i0 l a j hl hj)
            clear h2
            unfold rdS
            refine go_ ?_
            refine Rf (H3.out) ?_
            rintro _ _ ⟨rfl, rfl⟩
            cases h3 : (Qau 0 (l.drop j)).2 with
            | true =>
              have HT := Hh h3
              clear h3
              refine go_ ?_
              have hsuf : (Qau 0 (l.drop j)).1 <:+ l := (Qfv _ _).trans (List.drop_suffix _ _)
              refine ⟨posR l (Qau 0 (l.drop j)).1, ⟨Qjh _ _, ?_⟩, ?_, ?_, ?_⟩
              · rw [Qhd hsuf, ← HJ.out, HE.out.1, if_pos HT.out]
              · have h4 := HE.out.2
                unfold posR
                rw [List.length_drop] at h4
                omega
              · exact sU
              · exact dR
            | false =>
              have HT := Hh h3
              clear h3
              have hlt : j < a.length := by rw [HA.out]; exact h
              have hxa := Qaq hlt
              have hna : (0 : Int) ≤ (j : Int) := by omega
              unfold rdS
              refine go_ ?_
              refine rS (st' := rdS i0 l a (posR l (Qau 0 (l.drop j)).1)) Tryz.results220 ?_
              have e : Qaf (l.drop i) = (l.drop j, false) := by rw [← HJ.out, HE.out.1, HT.out]; rfl
              refine .inr ⟨by rw [e], ?_, _, rfl⟩
              rw [e, Qib hj, List.getD_eq_getElem?_getD, List.getElem?_eq_getElem hlt]
              rfl
          | false =>
            have HE := Hh (skip_else h (by rw [← hs.out]; exact HB.out) HF.out h2)
            clear h2
            refine go_ ?_
            refine rS (st' := rdS i0 l a j) Tryz.results220 ?_
            refine .inl ⟨by rw [← HJ.out, HE.out], rfl, ?_⟩
            rw [← HJ.out, HE.out, Qib hj]
    · obtain rfl : j = l.length := by omega
      have HE := Hh (show Qaf (l.drop i) = ([], true) by rw [← HJ.out, List.drop_length, Qaf])
      refine go_ ?_
      refine Qal [(0, .a), (1, .a), (2, .a), (3, .b), (4, .a), (5, .a), (6, .a), (7, .b), (8, .a), (9, .a)] (by kernel_rfl) (by rfl) (by kernel_rfl) ?_
      refine go_ ?_
      refine rS (st' := rdS i0 l a l.length) Tryz.results220 ?_
      exact .inl ⟨by rw [HE.out], rfl, by rw [HE.out]; rfl⟩
theorem tw_cons {l : List Int} {j : Nat} {b : Int → Bool} (h : j < l.length) (hb : b l[j] = true) : (l.drop j).takeWhile b = l[j] :: (l.drop (j + 1)).takeWhile b := by
 rw [List.drop_eq_getElem_cons h, List.takeWhile_cons_of_pos hb]
theorem tw_stop {l : List Int} {j : Nat} {b : Int → Bool} (h : j < l.length) (hb : b l[j] = false) : (l.drop j).takeWhile b = [] := by
 rw [List.drop_eq_getElem_cons h, List.takeWhile_cons_of_neg (by simp [hb])]
theorem tw_len {l : List Int} {i : Nat} {b : Int → Bool} (hi : i ≤ l.length) : i + ((l.drop i).takeWhile b).length ≤ l.length := by
 have := (List.takeWhile_prefix (p := b) (l := l.drop i)).length_le
 rw [List.length_drop] at this; omega
def TwI (l : List Int) (b : Int → Bool) (i j : Nat) : Prop := i ≤ j ∧ j ≤ l.length ∧ (l.drop i).takeWhile b = (l.take j).drop i ++ (l.drop j).takeWhile b
theorem TwI.start {l : List Int} {b : Int → Bool} {i : Nat} (hi : i ≤ l.length) : TwI l b i i := ⟨Nat.le_refl _, hi, by rw [List.drop_of_length_le (l := l.take i) (by simp; omega)]; rfl⟩
theorem TwI.next {l : List Int} {b : Int → Bool} {i j : Nat} (h : TwI l b i j) (hj : j < l.length) (hb : b l[j] = true) : TwI l b i (j + 1) := by
 obtain ⟨h1, h2, h3⟩ := h
 refine ⟨by omega, hj, ?_⟩
 rw [h3, tw_cons hj hb, List.take_succ_eq_append_getElem hj, List.drop_append_of_le_length (by simp; omega), List.append_assoc]
 rfl
theorem TwI.fin {l : List Int} {b : Int → Bool} {i j : Nat} (h : TwI l b i j) (hs : (l.drop j).takeWhile b = []) : (l.take j).drop i = (l.drop i).takeWhile b ∧ j = i + ((l.drop i).takeWhile b).length := by
 obtain ⟨h1, h2, h3⟩ := h
 rw [hs, List.append_nil] at h3
 refine ⟨h3.symm, ?_⟩
 rw [h3, List.length_drop, List.length_take]; omega
theorem run_p (i0 : Nat) (l a : List Int) (i : Nat) (hl : l.length ≤ 65535) (hi : i ≤ l.length) (f : FuncId) (b : Int → Bool) (hf : ∀ n, PCalls Tryz.prog f [.d (.v (.int .i64 n))] [] fun p s => p = .d (.v (.bool (b n))) ∧ s = []) (hca : Qbe Tryz.prog f = true) :
    PCalls Tryz.prog 272 [.ptr i0 0, .fn (.func f) [] []] (rdS i0 l a i) fun p s => p = .d (.v (.string (Qay ((l.drop i).takeWhile b)))) ∧ s = rdS i0 l a (i + ((l.drop i).takeWhile b).length) := by
  have HF := Hh hf
  have HC := Hh hca
  clear hf hca
  refine pE Tryz.func272 Tryz.ntmps272 ?_
  unfold rdS
  refine go_ ?_
  refine Qai (ι := Nat) (fun j => TwI l b i j) (fun _ => [(0, .ptr i0 0), (1, .fn (.func f) [] []), (5, .d (.v (.int .i64 i)))]) (fun j => rdS i0 l a j) (fun j => l.length - j) i (TwI.start hi) ?_ ?_ ?_
  · exact sU
  · exact dR
  · intro j hJ
    have HJ := Hh hJ
    obtain ⟨hij, hj, -⟩ := hJ
    have H0 := Hh (Qjw i0 l a j 0 0 rfl hl (by omega) (by decide))
    rw [Nat.add_zero] at H0
    unfold rdS
    by_cases h : j < l.length
    · have hc : (j : Int) < (l.length : Int) := by omega
      have hin := Qih h (by omega)
      have hs := Hh (Qfj h)
      refine go_ ?_
      refine Qal [(0, .a), (1, .a), (2, .a), (3, .b), (4, .a), (5, .a), (6, .a), (7, .b), (8, .a), (9, .a), (10, .a), (11, .a), (12, .a), (13, .e), (14, .e), (15, .a)] (by kernel_rfl) (by rfl) (by kernel_rfl) ?_
      refine go_ ?_
      refine Qlx (H0.out) ?_
      rintro _ _ ⟨rfl, rfl⟩
      refine go_ ?_
      refine POrd_callF (HF.out (sgn l j)) ?_ HC.out
      cases hb : b (sgn l j) with
      | true =>
        have HN := Hh (HJ.out.next h (by rw [← hs.out]; exact hb))
        clear hb
        unfold rdS
        refine go_ ?_
        refine Qaa ?_
        refine ⟨j + 1, HN.out, by omega, ?_, ?_⟩
        · exact sU
        · exact dR
      | false =>
        have HN := Hh (HJ.out.fin (tw_stop h (by rw [← hs.out]; exact hb)))
        clear hb
        unfold rdS
        refine go_ ?_
        refine Qal [(0, .a), (1, .a), (2, .a), (3, .b), (4, .a), (5, .a), (6, .a), (7, .a), (8, .b), (9, .a), (10, .a), (11, .a), (12, .a), (13, .a), (14, .a), (15, .a)] (by kernel_rfl) (by rfl) (by kernel_rfl) ?_
        refine go_ ?_
        refine POrd_slice i j ?_ rfl (by decide) eD (by simp; rfl) (by rfl) (by decide) eQ (by simp [PV.rows]; rfl) (by first | rfl | (simp [Qey, PF.eval, PF.get, cPV, Qcd, *]; done) | fail) (by first | rfl | (simp [Qdt, PF.eval, PF.get, cPV, Qcd, *]; done) | fail) (by first | omega | (simp; done) | (simp; omega)) (by first | omega | (simp; done) | (simp; omega)) ?_
        all_goals try exact Qki (α := Int) rfl
        refine Qac (join_p ((l.take j).drop i)) ?_
        refine go_ ?_
        refine rS (st' := rdS i0 l a j) Tryz.results272 ?_
        exact ⟨by rw [HN.out.1]; rfl, by rw [← HN.out.2]; rfl⟩
    · have hc : ¬ ((j : Int) < (l.length : Int)) := by omega
      have HN := Hh (HJ.out.fin (by rw [List.drop_of_length_le (by omega)]; rfl))
      refine go_ ?_
      refine Qal [(0, .a), (1, .a), (2, .a), (3, .b), (4, .a), (5, .a), (6, .a), (7, .b), (8, .a), (9, .a), (10, .a), (11, .a), (12, .a), (13, .e), (14, .e), (15, .a)] (by kernel_rfl) (by rfl) (by kernel_rfl) ?_
      refine go_ ?_
      refine Qal [(0, .a), (1, .a), (2, .a), (3, .b), (4, .a), (5, .a), (6, .a), (7, .a), (8, .b), (9, .a), (10, .a), (11, .a), (12, .a), (13, .a), (14, .a), (15, .a)] (by kernel_rfl) (by rfl) (by kernel_rfl) ?_
      refine go_ ?_
      refine POrd_slice i j ?_ rfl (by decide) eD (by simp; rfl) (by rfl) (by decide) eQ (by simp [PV.rows]; rfl) (by first | rfl | (simp [Qey, PF.eval, PF.get, cPV, Qcd, *]; done) | fail) (by first | rfl | (simp [Qdt, PF.eval, PF.get, cPV, Qcd, *]; done) | fail) (by first | omega | (simp; done) | (simp; omega)) (by first | omega | (simp; done) | (simp; omega)) ?_
      all_goals try exact Qki (α := Int) rfl
      refine Qac (join_p ((l.take j).drop i)) ?_
      refine go_ ?_
      refine rS (st' := rdS i0 l a j) Tryz.results272 ?_
      exact ⟨by rw [HN.out.1]; rfl, by rw [← HN.out.2]; rfl⟩
theorem mark_p (i0 : Nat) (l a : List Int) (i : Nat) (hl : l.length ≤ 65535) (hi : i ≤ l.length) : PCalls Tryz.prog 276 [.ptr i0 0] (rdS i0 l a i) fun p s => p = .tup [.d (.v (.string (Qci (sgn l i) (sgn l (i + 1))).1)), .d (.v (.int .i64 (Qci (sgn l i) (sgn l (i + 1))).2))] ∧ s = rdS i0 l a i := by
  have H0 := Hh (Qjw i0 l a i 0 0 rfl hl (by omega) (by decide))
  rw [Nat.add_zero] at H0
  have H1 := Hh (two_p i0 l a i 45 62 hl (by omega))
  refine pG Tryz.func276 Tryz.ntmps276 ?_
  refine Rf (H0.out) ?_
  rintro _ _ ⟨rfl, rfl⟩
  generalize sgn l (i + 1) = m at *
  generalize sgn l i = n at *
  by_cases h40 : n = 40
  · subst h40
    refine go_ ?_
    refine Qcb ?_
    refine Qdj ([40]) (by decide) rfl eQ (by rfl) rfl rfl rfl (by simp) ?_
    refine go_ ?_
    refine rS (st' := rdS i0 l a i) Tryz.results276 ?_
    exact ⟨rfl, rfl⟩
  by_cases h41 : n = 41
  · subst h41
    refine go_ ?_
    refine Qcb ?_
    refine Qdj ([41]) (by decide) rfl eQ (by rfl) rfl rfl rfl (by simp) ?_
    refine go_ ?_
    refine rS (st' := rdS i0 l a i) Tryz.results276 ?_
    exact ⟨rfl, rfl⟩
  by_cases h123 : n = 123
  · subst h123
    refine go_ ?_
    refine Qcb ?_
    refine Qdj ([123]) (by decide) rfl eQ (by rfl) rfl rfl rfl (by simp) ?_
    refine go_ ?_
    refine rS (st' := rdS i0 l a i) Tryz.results276 ?_
    exact ⟨rfl, rfl⟩
  by_cases h125 : n = 125
  · subst h125
    refine go_ ?_
    refine Qcb ?_
    refine Qdj ([125]) (by decide) rfl eQ (by rfl) rfl rfl rfl (by simp) ?_
    refine go_ ?_
    refine rS (st' := rdS i0 l a i) Tryz.results276 ?_
    exact ⟨rfl, rfl⟩
  by_cases h58 : n = 58
  · subst h58
    refine go_ ?_
    refine Qcb ?_
    refine Qdj ([58]) (by decide) rfl eQ (by rfl) rfl rfl rfl (by simp) ?_
    refine go_ ?_
    refine rS (st' := rdS i0 l a i) Tryz.results276 ?_
    exact ⟨rfl, rfl⟩
  by_cases h61 : n = 61
  · subst h61
    refine go_ ?_
    refine Qcb ?_
    refine Qdj ([61]) (by decide) rfl eQ (by rfl) rfl rfl rfl (by simp) ?_
    refine go_ ?_
    refine rS (st' := rdS i0 l a i) Tryz.results276 ?_
    exact ⟨rfl, rfl⟩
  by_cases h46 : n = 46
  · subst h46
    refine go_ ?_
    refine Qcb ?_
    refine Qdj ([46]) (by decide) rfl eQ (by rfl) rfl rfl rfl (by simp) ?_
    refine go_ ?_
    refine rS (st' := rdS i0 l a i) Tryz.results276 ?_
    exact ⟨rfl, rfl⟩
  by_cases h44 : n = 44
  · subst h44
    refine go_ ?_
    refine Qcb ?_
    refine Qdj ([44]) (by decide) rfl eQ (by rfl) rfl rfl rfl (by simp) ?_
    refine go_ ?_
    refine rS (st' := rdS i0 l a i) Tryz.results276 ?_
    exact ⟨rfl, rfl⟩
  by_cases h59 : n = 59
  · subst h59
    refine go_ ?_
    refine Qcb ?_
    refine Qdj ([59]) (by decide) rfl eQ (by rfl) rfl rfl rfl (by simp) ?_
    refine go_ ?_
    refine rS (st' := rdS i0 l a i) Tryz.results276 ?_
    exact ⟨rfl, rfl⟩
  by_cases h124 : n = 124
  · subst h124
    refine go_ ?_
    refine Qcb ?_
    refine Qdj ([124]) (by decide) rfl eQ (by rfl) rfl rfl rfl (by simp) ?_
    refine go_ ?_
    refine rS (st' := rdS i0 l a i) Tryz.results276 ?_
    exact ⟨rfl, rfl⟩
  by_cases h92 : n = 92
  · subst h92
    refine go_ ?_
    refine Qcb ?_
    refine Qdj ([92]) (by decide) rfl eQ (by rfl) rfl rfl rfl (by simp) ?_
    refine go_ ?_
    refine rS (st' := rdS i0 l a i) Tryz.results276 ?_
    exact ⟨rfl, rfl⟩
  by_cases h955 : n = 955
  · subst h955
    refine go_ ?_
    refine rS (st' := rdS i0 l a i) Tryz.results276 ?_
    exact ⟨rfl, rfl⟩
  by_cases h8594 : n = 8594
  · subst h8594
    refine go_ ?_
    refine rS (st' := rdS i0 l a i) Tryz.results276 ?_
    exact ⟨rfl, rfl⟩
  have HM := Hh (show mk1B n = false by simp [mk1B, *])
  have H8 := Hh h8594
  have H9 := Hh h955
  refine go_ ?_
  refine Rf (H1.out) ?_
  rintro _ _ ⟨rfl, rfl⟩
  cases h2 : (n == 45 && m == 62) with
  | true =>
    have HT := Hh h2
    clear h2
    refine go_ ?_
    refine rS (st' := rdS i0 l a i) Tryz.results276 ?_
    have e : n = 45 ∧ m = 62 := by simpa using HT.out
    have : Qci n m = (⟨#[45, 62]⟩, 2) := by rw [e.1, e.2]; rfl
    rw [this]
    exact ⟨rfl, rfl⟩
  | false =>
    have HT := Hh h2
    clear h2
    refine go_ ?_
    refine rS (st' := rdS i0 l a i) Tryz.results276 ?_
    have e : ¬ (n = 45 ∧ m = 62) := by intro e; have := HT.out; rw [e.1, e.2] at this; cases this
    have : Qci n m = (⟨#[]⟩, 0) := by unfold Qci; rw [HM.out, if_neg (by decide), if_neg H9.out, if_neg H8.out, if_neg e]
    rw [this]
    exact ⟨rfl, rfl⟩
def digC (c : UInt8) : Bool := decide (48 ≤ c.toNat ∧ c.toNat ≤ 57)
theorem Qmg (s : ByteArray) (k : Nat) (h : k < s.toList.length) (hz : k < s.size) : s[k]'hz = s.toList[k] := by
 simp only [ByteArray.toList_eq]
 rfl
theorem it_low {s : ByteArray} {k : Nat} (h : k < s.toList.length) (hc : s.toList[k].toNat < 128) : Qho s k = .tup [.d (.v (.bool true)), .d (.v (.int .i64 k)), .d (.v (.int .i32 s.toList[k].toNat))] ∧ Qgo s k = k + 1 := by
 have h' : k < s.size := by rw [← Qhq]; exact h
 have e := Qmg s k h h'
 have hd := decode_ascii s k h' (by rw [e]; exact hc)
 unfold Qho Qgo
 rw [if_pos h', if_pos h', hd, e]
 exact ⟨rfl, rfl⟩
theorem it_high {s : ByteArray} {k : Nat} (h : k < s.toList.length) (hc : 128 ≤ s.toList[k].toNat) : ∃ c : Nat, 128 ≤ c ∧ c ≤ 2147483647 ∧ Qho s k = .tup [.d (.v (.bool true)), .d (.v (.int .i64 k)), .d (.v (.int .i32 c))] := by
 have h' : k < s.size := by rw [← Qhq]; exact h
 have e := Qmg s k h h'
 refine ⟨(Utf8.decode s k).1, (decode_high s k h' (by rw [e]; exact hc)).1, decode_le s k, ?_⟩
 unfold Qho
 rw [if_pos h']
theorem it_end {s : ByteArray} {k : Nat} (h : ¬ k < s.toList.length) : Qho s k = .tup [.d (.v (.bool false))] ∧ Qgo s k = k := by
 have h' : ¬ k < s.size := by rw [← Qhq]; exact h
 unfold Qho Qgo
 rw [if_neg h', if_neg h']
 exact ⟨rfl, rfl⟩
theorem Qnk {l : List UInt8} {k : Nat} (h : k < l.length) : numV (l.take (k + 1)) = 10 * numV (l.take k) + ((l[k].toNat : Int) - 48) := by
 unfold numV
 rw [List.take_succ_eq_append_getElem h, List.foldl_append]; rfl
theorem numV_bd : ∀ (k : Nat) (l : List UInt8), k ≤ 3 → (∀ c ∈ l.take k, digC c = true) → 0 ≤ numV (l.take k) ∧ numV (l.take k) < 10 ^ k := by
  intro k
  induction k with
  | zero => intro l _ _; rw [List.take_zero]; decide
  | succ k ih =>
    intro l hk hd
    by_cases h : k < l.length
    · have h1 := ih l (by omega) fun c hc => hd c (by rw [List.take_succ_eq_append_getElem h]; exact List.mem_append_left _ hc)
      have h2 := hd l[k] (by rw [List.take_succ_eq_append_getElem h]; exact List.mem_append_right _ (List.mem_singleton_self _))
      simp only [digC, decide_eq_true_eq] at h2
      rw [Qnk h]
      have : (10 : Int) ^ (k + 1) = 10 * 10 ^ k := by rw [Int.pow_succ, Int.mul_comm]
      omega
    · have e : l.take (k + 1) = l.take k := by rw [List.take_of_length_le (by omega), List.take_of_length_le (by omega)]
      rw [e] at hd ⊢
      have h1 := ih l (by omega) hd
      have : (10 : Int) ^ (k + 1) = 10 * 10 ^ k := by rw [Int.pow_succ, Int.mul_comm]
      omega
theorem headD_pos : ∀ (l : List UInt8) (h : 0 < l.length), l.headD 0 = l[0] := by
 intro l h
 cases l with
 | nil => cases h
 | cons a l => rfl
theorem digitB_nat (c : UInt8) : Qar (c.toNat : Int) = digC c := by
 unfold Qar digC
 congr 1
 apply propext
 omega
theorem number_p (s : ByteArray) : PCalls Tryz.prog 275 [.d (.v (.string s))] [] fun p st => p = .tup [.d (.v (.int .i64 (numT s))), .d (.v (.bool (Qdn s)))] ∧ st = [] := by
  have HS := Hh (Qhq s)
  have no : Qdn s = false → PV.tup [.d (.v (.int .i64 0)), .d (.v (.bool false))] = PV.tup [.d (.v (.int .i64 (numT s))), .d (.v (.bool (Qdn s)))] := fun h => by unfold numT; rw [h]; rfl
  have HNO := Hh no
  clear no
  refine pG Tryz.func275 Tryz.ntmps275 ?_
  by_cases h0 : s.toList = []
  · have he : s.toList.isEmpty = true := by rw [h0]; rfl
    have HN := Hh (HNO.out (by unfold Qdn; rw [h0]; rfl))
    clear h0
    refine go_ ?_
    refine rT Tryz.results275 ?_
    exact ⟨HN.out, rfl⟩
  have he : s.toList.isEmpty = false := by cases h : s.toList with
    | nil => exact absurd h h0
    | cons a l => rfl
  have hp : 0 < s.toList.length := List.length_pos_iff.2 h0
  clear h0
  by_cases h3 : 3 < s.toList.length
  · have h3' : (3 : Int) < (s.size : Int) := by rw [← HS.out]; omega
    have HN := Hh (HNO.out (by unfold Qdn; rw [decide_eq_false (by omega)]; rfl))
    clear h3 hp
    refine go_ ?_
    refine rT Tryz.results275 ?_
    exact ⟨HN.out, rfl⟩
  have h3' : ¬ (3 : Int) < (s.size : Int) := by rw [← HS.out]; omega
  obtain ⟨c0, hb0, hh0⟩ : ∃ c, s[0]? = some c ∧ s.toList.headD 0 = c := by
    have h' : 0 < s.size := by rw [← HS.out]; exact hp
    refine ⟨s.toList[0], ?_, headD_pos _ hp⟩
    rw [← Qmg s 0 hp h']
    exact getElem?_pos s 0 h'
  have HH := Hh hh0
  clear hh0
  by_cases hz : c0.toNat = 48 ∧ 1 < s.toList.length
  · obtain ⟨hz1, hz2⟩ := hz
    have hz1' : (c0.toNat : Int) = 48 := by omega
    have hz2' : (1 : Int) < (s.size : Int) := by rw [← HS.out]; omega
    have HN := Hh (HNO.out (by
      unfold Qdn
      have : (s.toList.headD 0 == 48) = true := by rw [HH.out, beq_iff_eq]; exact UInt8.toNat_inj.1 hz1
      rw [this, decide_eq_true hz2]; simp))
    clear h3 hp hz2
    refine go_ ?_
    refine rT Tryz.results275 ?_
    exact ⟨HN.out, rfl⟩
  have HZ := Hh hz
  have HOK := Hh (show Qdn s = Qij s.toList by
    unfold Qdn
    rw [decide_eq_true (show 1 ≤ s.toList.length ∧ s.toList.length ≤ 3 by omega)]
    have : (s.toList.headD 0 == 48 && decide (1 < s.toList.length)) = false := by
      rw [HH.out]
      cases h : (c0 == 48 && decide (1 < s.toList.length)) with
      | false => rfl
      | true =>
        simp only [Bool.and_eq_true, beq_iff_eq, decide_eq_true_eq] at h
        exact absurd ⟨by rw [h.1]; rfl, h.2⟩ HZ.out
    rw [this]; simp)
  have HP := Hh hp
  have H3 := Hh h3
  have HL := Hh (show s.toList.length ≤ 3 by omega)
  have loop : ∀ (fr : PF) (Q : Exit → PF → St → Prop), True := fun _ _ => trivial
  clear loop hp
  by_cases hz1 : (c0.toNat : Int) = 48
  · have hz2 : ¬ (1 : Int) < (s.size : Int) := by
      rw [← HS.out]
      have := HZ.out
      omega
    clear hz h3
    refine go_ ?_
    refine POps_range ?_
    intro it hit
    refine go_ ?_
    refine Qai (ι := Nat) (fun k => k ≤ s.toList.length ∧ ∀ c ∈ s.toList.take k, digC c = true) (fun k => [(25, .ptr it 0), (4, .d (.v (.int .i64 (numV (s.toList.take k)))))]) (fun k => [.obj it (Qgx s k)]) (fun k => s.toList.length - k) 0 ⟨Nat.zero_le _, by intro c hc; rw [List.take_zero] at hc; cases hc⟩ ?_ ?_ ?_
    · exact sU
    · exact dR
    · rintro k ⟨hk, hd⟩
      have HD := Hh hd
      clear hd
      clear hb0 he h3'
      by_cases h : k < s.toList.length
      · by_cases hc : s.toList[k].toNat < 128
        · obtain ⟨e1, e2⟩ := it_low h hc
          have hdig := digitB_nat s.toList[k]
          have HT := Hh (Qnk h)
          have HB := Hh (numV_bd k s.toList (by have := HL.out; omega) HD.out)
          have hw0 : IntKind.i64.wrap (s.toList[k].toNat : Int) = (s.toList[k].toNat : Int) := Qgi (by omega) (by omega)
          refine go_ ?_
          refine Qhy e1 e2 ?_
          refine go_ ?_
          refine Jc (Qjd (s.toList[k].toNat : Int)) ?_
          cases hb : digC s.toList[k] with
          | true =>
            have hcb : 48 ≤ s.toList[k].toNat ∧ s.toList[k].toNat ≤ 57 := by simpa [digC] using hb
            have hbd : numV (s.toList.take k) ≤ 1000 ∧ 0 ≤ numV (s.toList.take k) := by
              have h1 := HB.out
              have h2 : (10 : Int) ^ k ≤ 1000 := by
                have := HL.out
                have : k = 0 ∨ k = 1 ∨ k = 2 ∨ k = 3 := by omega
                rcases this with rfl | rfl | rfl | rfl <;> decide
              omega
            have hw1 : IntKind.i32.wrap ((s.toList[k].toNat : Int) - 48) = (s.toList[k].toNat : Int) - 48 := IntWalk.i32_in _ (by omega)
            have hw2 : IntKind.i64.wrap ((s.toList[k].toNat : Int) - 48) = (s.toList[k].toNat : Int) - 48 := Qgi (by omega) (by omega)
            have hw3 : IntKind.i64.wrap (10 * numV (s.toList.take k)) = 10 * numV (s.toList.take k) := Qgi (by omega) (by omega)
            have hw4 : IntKind.i64.wrap (10 * numV (s.toList.take k) + ((s.toList[k].toNat : Int) - 48)) = 10 * numV (s.toList.take k) + ((s.toList[k].toNat : Int) - 48) := Qgi (by omega) (by omega)
            have HDN := Hh (show ∀ c ∈ s.toList.take (k + 1), digC c = true by
              intro c hcm
              rw [List.take_succ_eq_append_getElem h] at hcm
              rcases List.mem_append.1 hcm with hcm | hcm
              · exact HD.out c hcm
              · rw [List.mem_singleton.1 hcm]; exact hb)
            clear hbd hcb hc
            refine go_ ?_
            refine ⟨k + 1, ⟨h, HDN.out⟩, by omega, ?_, ?_⟩
            · refine Js (by simp [PF.get] <;> rfl) rfl ?_
              refine Js (by simp [PF.get] <;> rfl) (by rw [HT.out]) ?_
              exact sU
            · exact dR
          | false =>
            have HN := Hh (HNO.out (by rw [HOK.out]; unfold Qij; rw [List.all_eq_false]; exact ⟨s.toList[k], List.getElem_mem h, by have := hb; unfold digC at this; rw [this]; decide⟩))
            refine go_ ?_
            refine rT Tryz.results275 ?_
            exact ⟨HN.out, rfl⟩
        · obtain ⟨c, hc1, hc2, e1⟩ := it_high h (by omega)
          have hd0 : Qar (c : Int) = false := by unfold Qar; exact decide_eq_false (by omega)
          have hw0 : IntKind.i64.wrap (c : Int) = (c : Int) := IntWalk.i64_in _ (by omega)
          have HN := Hh (HNO.out (by rw [HOK.out]; unfold Qij; rw [List.all_eq_false]; exact ⟨s.toList[k], List.getElem_mem h, by rw [decide_eq_false (by omega)]; decide⟩))
          refine go_ ?_
          refine Qhy e1 rfl ?_
          refine go_ ?_
          refine Qab (Qjd (c : Int)) ?_
          refine rT Tryz.results275 ?_
          exact ⟨HN.out, rfl⟩
      · obtain ⟨e1, e2⟩ := it_end h
        have hkl : k = s.toList.length := by omega
        have HK := Hh hkl
        clear hkl
        refine go_ ?_
        refine Qhy e1 e2 ?_
        refine go_ ?_
        refine rT Tryz.results275 ?_
        have hall : Qij s.toList = true := by
          unfold Qij
          rw [List.all_eq_true]
          intro c hc
          have := HD.out c (by rw [HK.out, List.take_length]; exact hc)
          simpa [digC] using this
        have e : Qdn s = true := by rw [HOK.out, hall]
        refine ⟨?_, rfl⟩
        unfold numT
        rw [e, if_pos rfl, HK.out, List.take_length]
        rfl
  · clear hz h3
    refine go_ ?_
    refine POps_range ?_
    intro it hit
    refine go_ ?_
    refine Qai (ι := Nat) (fun k => k ≤ s.toList.length ∧ ∀ c ∈ s.toList.take k, digC c = true) (fun k => [(25, .ptr it 0), (4, .d (.v (.int .i64 (numV (s.toList.take k)))))]) (fun k => [.obj it (Qgx s k)]) (fun k => s.toList.length - k) 0 ⟨Nat.zero_le _, by intro c hc; rw [List.take_zero] at hc; cases hc⟩ ?_ ?_ ?_
    · exact sU
    · exact dR
    · rintro k ⟨hk, hd⟩
      have HD := Hh hd
      clear hd
      clear hb0 he h3'
      by_cases h : k < s.toList.length
      · by_cases hc : s.toList[k].toNat < 128
        · obtain ⟨e1, e2⟩ := it_low h hc
          have hdig := digitB_nat s.toList[k]
          have HT := Hh (Qnk h)
          have HB := Hh (numV_bd k s.toList (by have := HL.out; omega) HD.out)
          have hw0 : IntKind.i64.wrap (s.toList[k].toNat : Int) = (s.toList[k].toNat : Int) := Qgi (by omega) (by omega)
          refine go_ ?_
          refine Qhy e1 e2 ?_
          refine go_ ?_
          refine Jc (Qjd (s.toList[k].toNat : Int)) ?_
          cases hb : digC s.toList[k] with
          | true =>
            have hcb : 48 ≤ s.toList[k].toNat ∧ s.toList[k].toNat ≤ 57 := by simpa [digC] using hb
            have hbd : numV (s.toList.take k) ≤ 1000 ∧ 0 ≤ numV (s.toList.take k) := by
              have h1 := HB.out
              have h2 : (10 : Int) ^ k ≤ 1000 := by
                have := HL.out
                have : k = 0 ∨ k = 1 ∨ k = 2 ∨ k = 3 := by omega
                rcases this with rfl | rfl | rfl | rfl <;> decide
              omega
            have hw1 : IntKind.i32.wrap ((s.toList[k].toNat : Int) - 48) = (s.toList[k].toNat : Int) - 48 := IntWalk.i32_in _ (by omega)
            have hw2 : IntKind.i64.wrap ((s.toList[k].toNat : Int) - 48) = (s.toList[k].toNat : Int) - 48 := Qgi (by omega) (by omega)
            have hw3 : IntKind.i64.wrap (10 * numV (s.toList.take k)) = 10 * numV (s.toList.take k) := Qgi (by omega) (by omega)
            have hw4 : IntKind.i64.wrap (10 * numV (s.toList.take k) + ((s.toList[k].toNat : Int) - 48)) = 10 * numV (s.toList.take k) + ((s.toList[k].toNat : Int) - 48) := Qgi (by omega) (by omega)
            have HDN := Hh (show ∀ c ∈ s.toList.take (k + 1), digC c = true by
              intro c hcm
              rw [List.take_succ_eq_append_getElem h] at hcm
              rcases List.mem_append.1 hcm with hcm | hcm
              · exact HD.out c hcm
              · rw [List.mem_singleton.1 hcm]; exact hb)
            clear hbd hcb hc
            refine go_ ?_
            refine ⟨k + 1, ⟨h, HDN.out⟩, by omega, ?_, ?_⟩
            · refine Js (by simp [PF.get] <;> rfl) rfl ?_
              refine Js (by simp [PF.get] <;> rfl) (by rw [HT.out]) ?_
              exact sU
            · exact dR
          | false =>
            have HN := Hh (HNO.out (by rw [HOK.out]; unfold Qij; rw [List.all_eq_false]; exact ⟨s.toList[k], List.getElem_mem h, by have := hb; unfold digC at this; rw [this]; decide⟩))
            refine go_ ?_
            refine rT Tryz.results275 ?_
            exact ⟨HN.out, rfl⟩
        · obtain ⟨c, hc1, hc2, e1⟩ := it_high h (by omega)
          have hd0 : Qar (c : Int) = false := by unfold Qar; exact decide_eq_false (by omega)
          have hw0 : IntKind.i64.wrap (c : Int) = (c : Int) := IntWalk.i64_in _ (by omega)
          have HN := Hh (HNO.out (by rw [HOK.out]; unfold Qij; rw [List.all_eq_false]; exact ⟨s.toList[k], List.getElem_mem h, by rw [decide_eq_false (by omega)]; decide⟩))
          refine go_ ?_
          refine Qhy e1 rfl ?_
          refine go_ ?_
          refine Qab (Qjd (c : Int)) ?_
          refine rT Tryz.results275 ?_
          exact ⟨HN.out, rfl⟩
      · obtain ⟨e1, e2⟩ := it_end h
        have hkl : k = s.toList.length := by omega
        have HK := Hh hkl
        clear hkl
        refine go_ ?_
        refine Qhy e1 e2 ?_
        refine go_ ?_
        refine rT Tryz.results275 ?_
        have hall : Qij s.toList = true := by
          unfold Qij
          rw [List.all_eq_true]
          intro c hc
          have := HD.out c (by rw [HK.out, List.take_length]; exact hc)
          simpa [digC] using this
        have e : Qdn s = true := by rw [HOK.out, hall]
        refine ⟨?_, rfl⟩
        unfold numT
        rw [e, if_pos rfl, HK.out, List.take_length]
        rfl
theorem Qcj (l : List Int) (i k : Nat) : sgn (l.drop i) k = sgn l (i + k) := by unfold sgn; simp [List.getD_eq_getElem?_getD]
def tkAt (l : List Int) (at_ : Int) : Tk := ⟨(Qaj l).1, (Qaj l).2.1, at_⟩
theorem next_p (i0 : Nat) (l a : List Int) (i : Nat) (hl : l.length ≤ 65535) (ha : a.length = l.length) (hi : i < l.length) : PCalls Tryz.prog 221 [.ptr i0 0] (rdS i0 l a i) fun p s => p = .tup [aggD (tkAt (l.drop i) (a.getD i 0)), .d (.v (.bool (Qaj (l.drop i)).2.2.2))] ∧ s = rdS i0 l a (i + (Qaj (l.drop i)).2.2.1) := by
  have hia : i < a.length := by omega
  have hx := Qaq hia
  have hA : a.getD i 0 = a[i] := by rw [List.getD_eq_getElem?_getD, List.getElem?_eq_getElem hia]; rfl
  rw [hA]
  have hn : (0 : Int) ≤ (i : Int) := by omega
  have hc : (i : Int) < (a.length : Int) := by omega
  have H0 := Hh (Qjw i0 l a i 0 0 rfl hl (by omega) (by decide))
  rw [Nat.add_zero] at H0
  have HN := Hh (show Qaj (l.drop i) = _ from rfl)
  clear ha hA
  unfold rdS at *
  refine pG Tryz.func221 Tryz.ntmps221 ?_
  refine Je ?_
  intro i1 hi1
  simp only [Ja, Rh] at hi1
  refine go_ ?_
  refine Qfc (J := Qcm [(i0, _)]) [(0, .a), (1, .a), (2, .a), (3, .a), (4, .a), (5, .a), (6, .a), (7, .a), (8, .a), (9, .a), (10, .a), (11, .e), (12, .e)] (by kernel_rfl) (by rfl) (by kernel_rfl) (by (repeat (first | exact Qat _ | refine Ju (by simp [St.box?, *] <;> rfl) ?_))) ?_
  refine jG ?_
  refine Qlv rfl (by decide) rfl (by simp; rfl) (fun i hi => by simp only [Ja, Rh, Rg] at hi; (repeat (first | exact Qat _ | refine Ju (by simp [St.box?, *] <;> rfl) ?_))) ?_
  intro i2 hi2
  simp only [Ja, Rh, Rg] at hi2
  refine PJs ?_
  refine jG ?_
  refine go_ ?_
  refine Re 2 1 (H0.out) ?_
  rintro _ _ ⟨rfl, rfl⟩
  refine go_ ?_
  refine Jc (letter_p (sgn l i)) ?_
  cases h1 : Qbn (sgn l i) with
  | true =>
    refine go_ ?_
    refine Re 2 1 (run_p i0 l a i hl (by omega) 273 Qag inner_p rfl) ?_
    rintro _ _ ⟨rfl, rfl⟩
    have HA := Hh (show Qaj (l.drop i) = (if kwB (Qay ((l.drop i).takeWhile Qag)) then (2, Qay ((l.drop i).takeWhile Qag), ((l.drop i).takeWhile Qag).length, true) else (1, Qay ((l.drop i).takeWhile Qag), ((l.drop i).takeWhile Qag).length, (Qay ((l.drop i).takeWhile Qag)).toList == [95] || Qam (Qay ((l.drop i).takeWhile Qag)))) by
      unfold Qaj
      rw [Qcj, Nat.add_zero, if_pos (by rw [h1]; rfl)])
    generalize Qay ((l.drop i).takeWhile Qag) = t at *
    generalize ((l.drop i).takeWhile Qag).length = m at *
    unfold rdS
    refine go_ ?_
    refine Qaa ?_
    refine Qaa ?_
    refine Jc (keyword_p t) ?_
    cases hk : kwB t with
    | true =>
      have HE := Hh (show Qaj (l.drop i) = (2, t, m, true) by rw [HA.out, hk]; rfl)
      clear hk
      refine go_ ?_
      refine Qaa ?_
      refine Qal [(0, .b), (1, .a), (2, .b), (3, .a), (4, .a), (5, .a), (6, .b), (7, .a), (8, .a), (9, .a), (10, .a), (11, .b), (12, .a), (13, .a), (14, .e), (15, .a)] (by kernel_rfl) (by rfl) (by kernel_rfl) ?_
      refine go_ ?_
      refine Qck ?_
      refine go_ ?_
      refine rS (st' := rdS i0 l a (i + m)) Tryz.results221 ?_
      exact ⟨by rw [HE.out]; simp [tkAt, HE.out, aggD, Qaz]; rfl, by rw [HE.out]; rfl⟩
    | false =>
      have HB := Hh (show Qaj (l.drop i) = (1, t, m, t.toList == [95] || Qam t) by rw [HA.out, hk]; rfl)
      clear hk
      cases h9 : (t.toList == [95]) with
      | true =>
        have HE := Hh (show Qaj (l.drop i) = (1, t, m, true) by rw [HB.out, h9]; rfl)
        refine go_ ?_
        refine Qal [(0, .b), (1, .a), (2, .b), (3, .a), (4, .a), (5, .a), (6, .b), (7, .a), (8, .a), (9, .a), (10, .a), (11, .b), (12, .a), (13, .a), (14, .e), (15, .a)] (by kernel_rfl) (by rfl) (by kernel_rfl) ?_
        refine go_ ?_
        refine Qck ?_
        refine go_ ?_
        refine rS (st' := rdS i0 l a (i + m)) Tryz.results221 ?_
        exact ⟨by rw [HE.out]; simp [tkAt, HE.out, aggD, Qaz]; rfl, by rw [HE.out]; rfl⟩
      | false =>
        have HE := Hh (show Qaj (l.drop i) = (1, t, m, Qam t) by rw [HB.out, h9]; rfl)
        refine go_ ?_
        refine Qal [(0, .b), (1, .a), (2, .b), (3, .a), (4, .a), (5, .a), (6, .b), (7, .a), (8, .a), (9, .a), (10, .a), (11, .b), (12, .a), (13, .a), (14, .e), (15, .a)] (by kernel_rfl) (by rfl) (by kernel_rfl) ?_
        refine go_ ?_
        refine Qcn (Qkv t) ?_
        refine go_ ?_
        refine Qck ?_
        refine go_ ?_
        refine rS (st' := rdS i0 l a (i + m)) Tryz.results221 ?_
        exact ⟨by rw [HE.out]; simp [tkAt, HE.out, aggD, Qaz]; rfl, by rw [HE.out]; rfl⟩
  | false =>
    by_cases h95 : sgn l i = 95
    · refine go_ ?_
      refine Re 2 1 (run_p i0 l a i hl (by omega) 273 Qag inner_p rfl) ?_
      rintro _ _ ⟨rfl, rfl⟩
      have HA := Hh (show Qaj (l.drop i) = (if kwB (Qay ((l.drop i).takeWhile Qag)) then (2, Qay ((l.drop i).takeWhile Qag), ((l.drop i).takeWhile Qag).length, true) else (1, Qay ((l.drop i).takeWhile Qag), ((l.drop i).takeWhile Qag).length, (Qay ((l.drop i).takeWhile Qag)).toList == [95] || Qam (Qay ((l.drop i).takeWhile Qag)))) by
        unfold Qaj
        rw [Qcj, Nat.add_zero, if_pos (by rw [h95]; simp)])
      generalize Qay ((l.drop i).takeWhile Qag) = t at *
      generalize ((l.drop i).takeWhile Qag).length = m at *
      unfold rdS
      refine go_ ?_
      refine Qaa ?_
      refine Qaa ?_
      refine Jc (keyword_p t) ?_
      cases hk : kwB t with
      | true =>
        have HE := Hh (show Qaj (l.drop i) = (2, t, m, true) by rw [HA.out, hk]; rfl)
        clear hk
        refine go_ ?_
        refine Qaa ?_
        refine Qal [(0, .b), (1, .a), (2, .b), (3, .a), (4, .a), (5, .a), (6, .b), (7, .a), (8, .a), (9, .a), (10, .a), (11, .b), (12, .a), (13, .a), (14, .e), (15, .a)] (by kernel_rfl) (by rfl) (by kernel_rfl) ?_
        refine go_ ?_
        refine Qck ?_
        refine go_ ?_
        refine rS (st' := rdS i0 l a (i + m)) Tryz.results221 ?_
        exact ⟨by rw [HE.out]; simp [tkAt, HE.out, aggD, Qaz]; rfl, by rw [HE.out]; rfl⟩
      | false =>
        have HB := Hh (show Qaj (l.drop i) = (1, t, m, t.toList == [95] || Qam t) by rw [HA.out, hk]; rfl)
        clear hk
        cases h9 : (t.toList == [95]) with
        | true =>
          have HE := Hh (show Qaj (l.drop i) = (1, t, m, true) by rw [HB.out, h9]; rfl)
          refine go_ ?_
          refine Qal [(0, .b), (1, .a), (2, .b), (3, .a), (4, .a), (5, .a), (6, .b), (7, .a), (8, .a), (9, .a), (10, .a), (11, .b), (12, .a), (13, .a), (14, .e), (15, .a)] (by kernel_rfl) (by rfl) (by kernel_rfl) ?_
          refine go_ ?_
          refine Qck ?_
          refine go_ ?_
          refine rS (st' := rdS i0 l a (i + m)) Tryz.results221 ?_
          exact ⟨by rw [HE.out]; simp [tkAt, HE.out, aggD, Qaz]; rfl, by rw [HE.out]; rfl⟩
        | false =>
          have HE := Hh (show Qaj (l.drop i) = (1, t, m, Qam t) by rw [HB.out, h9]; rfl)
          refine go_ ?_
          refine Qal [(0, .b), (1, .a), (2, .b), (3, .a), (4, .a), (5, .a), (6, .b), (7, .a), (8, .a), (9, .a), (10, .a), (11, .b), (12, .a), (13, .a), (14, .e), (15, .a)] (by kernel_rfl) (by rfl) (by kernel_rfl) ?_
          refine go_ ?_
          refine Qcn (Qkv t) ?_
          refine go_ ?_
          refine Qck ?_
          refine go_ ?_
          refine rS (st' := rdS i0 l a (i + m)) Tryz.results221 ?_
          exact ⟨by rw [HE.out]; simp [tkAt, HE.out, aggD, Qaz]; rfl, by rw [HE.out]; rfl⟩
    · have HL := Hh (show ¬ (Qbn (sgn l i) || sgn l i == 95) = true by rw [h1]; simp [h95])
      clear h1
      refine go_ ?_
      refine Jc (Qjd (sgn l i)) ?_
      cases h2 : Qar (sgn l i) with
      | true =>
        have HA := Hh (show Qaj (l.drop i) = (3, Qay ((l.drop i).takeWhile Qar), ((l.drop i).takeWhile Qar).length, Qdn (Qay ((l.drop i).takeWhile Qar)) && !Qag (sgn l (i + ((l.drop i).takeWhile Qar).length))) by
          unfold Qaj
          rw [Qcj, Qcj, Nat.add_zero, if_neg HL.out, if_pos h2])
        have htl := tw_len (b := Qar) (Nat.le_of_lt hi)
        clear h2
        refine go_ ?_
        refine Re 2 1 (run_p i0 l a i hl (by omega) 274 Qar Qjd rfl) ?_
        rintro _ _ ⟨rfl, rfl⟩
        generalize Qay ((l.drop i).takeWhile Qar) = t at *
        generalize ((l.drop i).takeWhile Qar).length = m at *
        have H3 := Hh (Qjw i0 l a (i + m) 0 0 rfl hl (by omega) (by decide))
        rw [Nat.add_zero] at H3
        unfold rdS at *
        refine go_ ?_
        refine Qaa ?_
        refine Qaa ?_
        refine Jc (number_p t) ?_
        cases h3 : Qdn t with
        | true =>
          have HE := Hh (show Qaj (l.drop i) = (3, t, m, !Qag (sgn l (i + m))) by rw [HA.out, h3]; rfl)
          refine go_ ?_
          refine Qfc (J := Qcm [(i0, _), (i2, _)]) [(0, .a), (1, .a), (2, .a), (3, .a), (4, .a), (5, .a), (6, .a), (7, .a), (8, .e), (9, .a)] (by kernel_rfl) (by rfl) (by kernel_rfl) (by (repeat (first | exact Qat _ | refine Ju (by simp [St.box?, *] <;> rfl) ?_))) ?_
          refine jG ?_
          refine PJ_callK (H3.out) ?_
          refine jG ?_
          refine Qiw (inner_p (sgn l (i + m))) ?_
          refine jG ?_
          refine PJs ?_
          refine jG ?_
          refine go_ ?_
          refine rS (st' := rdS i0 l a (i + m)) Tryz.results221 ?_
          exact ⟨by rw [HE.out]; simp [tkAt, HE.out, aggD, Qaz]; rfl, by rw [HE.out]; rfl⟩
        | false =>
          have HE := Hh (show Qaj (l.drop i) = (3, t, m, false) by rw [HA.out, h3]; rfl)
          refine go_ ?_
          refine Qfc (J := Qcm [(i0, _), (i2, _)]) [(0, .a), (1, .a), (2, .a), (3, .a), (4, .a), (5, .a), (6, .a), (7, .a), (8, .e), (9, .a)] (by kernel_rfl) (by rfl) (by kernel_rfl) (by (repeat (first | exact Qat _ | refine Ju (by simp [St.box?, *] <;> rfl) ?_))) ?_
          refine jG ?_
          refine PJs ?_
          refine jG ?_
          refine go_ ?_
          refine rS (st' := rdS i0 l a (i + m)) Tryz.results221 ?_
          exact ⟨by rw [HE.out]; simp [tkAt, HE.out, aggD, Qaz]; rfl, by rw [HE.out]; rfl⟩
      | false =>
        have HE := Hh (show Qaj (l.drop i) = (4, (Qci (sgn l i) (sgn l (i + 1))).1, (Qci (sgn l i) (sgn l (i + 1))).2, decide (0 < (Qci (sgn l i) (sgn l (i + 1))).2)) by
          unfold Qaj
          rw [Qcj, Qcj, Nat.add_zero, if_neg HL.out, if_neg (by rw [h2]; decide)]
          simp only [Qcj])
        have hk : (Qci (sgn l i) (sgn l (i + 1))).2 ≤ 2 := by
          unfold Qci
          split
          · exact (by decide : 1 ≤ 2)
          · split
            · exact (by decide : 1 ≤ 2)
            · split
              · exact (by decide : 1 ≤ 2)
              · split
                · exact (by decide : 2 ≤ 2)
                · exact (by decide : 0 ≤ 2)
        clear h2
        have H3 := Hh (mark_p i0 l a i hl (by omega))
        generalize (Qci (sgn l i) (sgn l (i + 1))).1 = t at *
        generalize (Qci (sgn l i) (sgn l (i + 1))).2 = m at *
        have hw : IntKind.i64.wrap ((i : Int) + (m : Int)) = ((i + m : Nat) : Int) := by rw [Qgi (by omega) (by omega)]; omega
        unfold rdS at *
        refine go_ ?_
        refine Re 2 1 (H3.out) ?_
        rintro _ _ ⟨rfl, rfl⟩
        refine go_ ?_
        refine Qaa ?_
        refine Qaa ?_
        refine Qaa ?_
        refine Qaa ?_
        refine rS (st' := rdS i0 l a (i + m)) Tryz.results221 ?_
        exact ⟨by rw [HE.out]; simp [tkAt, HE.out, aggD, Qaz]; rfl, by rw [HE.out]; rfl⟩
theorem joinB_app (l : List Int) (k : Nat) (h : k < l.length) : ((Qcg (l.take (k + 1))).length : Int) = (Qcg (l.take k)).length + ((enc l[k]).size : Int) := by
 rw [Qjz l k h, List.length_append, Qkr]; omega
theorem Qlg {l : List Int} {k : Nat} (h : k < l.length) : offN l (k + 1) = offN l k + ((enc l[k]).size : Int) := joinB_app l k h
theorem offN_bd (l : List Int) : ∀ k, k ≤ l.length → 0 ≤ offN l k ∧ offN l k ≤ 4 * k := by
  intro k
  induction k with
  | zero => intro _; unfold offN Qcg; simp
  | succ k ih =>
    intro h
    have h1 := ih (by omega)
    rw [Qlg (by omega)]
    have := enc_len (l[k]'(by omega))
    omega
theorem offL_take {l : List Int} {k : Nat} (h : k < l.length) : ((List.range l.length).map (offN l)).take (k + 1) = ((List.range l.length).map (offN l)).take k ++ [offN l k] := by
 rw [List.take_succ_eq_append_getElem (by simpa using h)]
 simp
theorem offE_take {l : List Int} {k : Nat} (h : k < l.length) : ((offL l).map encD).take (k + 1) = ((offL l).map encD).take k ++ [[D.v (.int .i64 (offN l k))]] := by
 rw [← List.map_take, ← List.map_take]
 unfold offL
 rw [offL_take h, List.map_append]
 rfl
theorem offL_len (l : List Int) : (offL l).length = l.length := by unfold offL; simp
theorem offL_get {l : List Int} {k : Nat} (h : k < l.length) : (offL l).getD k 0 = offN l k := by
 unfold offL
 rw [List.getD_eq_getElem?_getD, List.getElem?_map, List.getElem?_range h]; rfl
theorem offsets_p (l : List Int) (hl : l.length ≤ 65535) (hr : l.all right = true) : PCalls Tryz.prog 219 [.d (.sl (l.map encD))] [] fun p s => p = .d (.sl ((offL l).map encD)) ∧ s = [] := by
 have HR := Hh hr
 clear hr
 refine pG Tryz.func219 Tryz.ntmps219 ?_
 refine PW_own 3 3 1 (by decide) (by simp [PF.get] <;> rfl) fun g hg => ?_
 refine Qai (ι := Nat) (fun k => k ≤ l.length) (fun k => [(9, .d (.sl (l.map encD))), (10, .d (.v (.int .i64 l.length))), (11, .d (.v (.int .i64 k))), (3, .own g (((offL l).map encD).take k)), (4, .d (.v (.int .i64 (offN l k))))]) (fun k => [.tok g 3 1 k]) (fun k => l.length - k) 0 (Nat.zero_le _) ?_ ?_ ?_
 ·have h00 : offN l 0 = 0 := rfl
  exact sU
 ·exact dR
 ·intro k hk
  by_cases h : k < l.length
  ·have hx := Qaq h
   have hc : (k : Int) < (l.length : Int) := by omega
   have hn : (0 : Int) ≤ (k : Int) := by omega
   have hol := offL_len l
   have hin := Qih h (by omega)
   have hput : putS l[k] = enc l[k] := by
    unfold putS
    rw [if_pos (List.all_eq_true.1 HR.out _ (List.getElem_mem h))]
   have HB := Hh (offN_bd l k hk)
   have HS := Hh (Qlg h)
   have hlen := enc_len l[k]
   have hw : IntKind.i64.wrap (offN l k + ((enc l[k]).size : Int)) = offN l k + ((enc l[k]).size : Int) := IntWalk.i64_in _ (by have := HB.out; omega)
   refine go_ ?_
   refine Qcb ?_
   refine Qap (k + 1) ?_ ?_ ?_ ?_
   ·simp; omega
   ·exact rows_take fun _ => rfl
   ·exact Qbt rfl
   refine go_ ?_
   refine Qab (put_p l[k]) ?_
   refine ⟨k + 1, h, by omega, ?_, ?_⟩
   ·have HT := offE_take h
    repeat (first | exact Jt _ | refine Js (by simp [PF.get]; rfl) (by first | rfl | (simp [HT, HS.out, hin]; done) | fail) ?_)
   ·exact dR
  ·obtain rfl : k = l.length := by omega
   have hc : ¬ ((l.length : Int) < (l.length : Int)) := by omega
   refine go_ ?_
   refine rT Tryz.results219 ?_
   refine ⟨?_, rfl⟩
   rw [List.take_of_length_le (by rw [List.length_map, offL_len]; exact hk)]
   rfl
theorem encL_pos (n : Int) : 1 ≤ (encL n).length := (encL_len n).1
theorem joinB_ge : ∀ l : List Int, l.length ≤ (Qcg l).length := by
  intro l
  induction l with
  | nil => exact Nat.zero_le _
  | cons n l ih =>
    have := encL_pos n
    unfold Qcg at ih ⊢
    rw [List.flatMap_cons, List.length_append, List.length_cons]; omega
theorem signs_ok {s : ByteArray} (h : allE s = 0) : (allS s).length ≤ 65535 ∧ (allS s).all right = true := by
 have h1 := (Qjk s h).1
 unfold Qfe at h1
 split at h1
 ·rename_i hr
  split at h1
  ·cases h1
  ·have := joinB_ge (allS s)
   exact ⟨by omega, hr⟩
 ·cases h1
def tkRow (l : List Int) (x : Int × ByteArray × Nat) : Tk := ⟨x.1, x.2.1, offN l (l.length - x.2.2)⟩
def CutI (l : List Int) (i : Nat) (acc : List (Int × ByteArray × Nat)) : Prop := i ≤ l.length ∧ acc.length ≤ 8192 ∧ (acc ++ (cutR acc.length (l.drop i)).1, (cutR acc.length (l.drop i)).2) = cutR 0 l
theorem CutI.bad {l : List Int} {i : Nat} {acc : List (Int × ByteArray × Nat)} (h : CutI l i acc) {e : Int × Nat} (he : (cutR acc.length (l.drop i)).2 = some e) (n : Nat) : Qiu l n = ([], offN l (l.length - e.2), e.1) := by
 unfold Qiu
 rw [← h.2.2, he]
theorem CutI.stop {l : List Int} {i : Nat} {acc : List (Int × ByteArray × Nat)} (h : CutI l i acc) (he : cutR acc.length (l.drop i) = ([], none)) (n : Nat) : Qiu l n = (acc.map (tkRow l) ++ [⟨5, ⟨#[]⟩, n⟩], (n : Int), 0) := by
 unfold Qiu
 rw [← h.2.2, he, List.append_nil]
 rfl
theorem cut_a {c : Nat} {r : List Int} (h : (Qaf r).2 = false) : cutR c r = ([], some (1, (Qaf r).1.length)) := by
 rw [cutR]; simp only [h, if_true]
theorem cut_b {c : Nat} {r : List Int} (h : (Qaf r).2 = true) (h2 : (Qaf r).1 = []) : cutR c r = ([], none) := by
 rw [cutR]; simp [h, h2]
theorem cut_c {c : Nat} {r : List Int} (h : (Qaf r).2 = true) (h2 : (Qaf r).1 ≠ []) (h3 : 8192 ≤ c) : cutR c r = ([], some (2, (Qaf r).1.length)) := by
 rw [cutR]; simp [h, h2, h3]
theorem cut_d {c : Nat} {r : List Int} (h : (Qaf r).2 = true) (h2 : (Qaf r).1 ≠ []) (h3 : ¬ 8192 ≤ c) (h4 : (Qaj (Qaf r).1).2.2.2 = false) : cutR c r = ([], some (1, (Qaf r).1.length)) := by
 rw [cutR]; simp [h, h2, h3, h4]
theorem cut_e {c : Nat} {r : List Int} (h : (Qaf r).2 = true) (h2 : (Qaf r).1 ≠ []) (h3 : ¬ 8192 ≤ c) (h4 : (Qaj (Qaf r).1).2.2.2 = true) : cutR c r = (((Qaj (Qaf r).1).1, (Qaj (Qaf r).1).2.1, (Qaf r).1.length) :: (cutR (c + 1) ((Qaf r).1.drop (Qaj (Qaf r).1).2.2.1)).1, (cutR (c + 1) ((Qaf r).1.drop (Qaj (Qaf r).1).2.2.1)).2) := by
 conv => lhs; rw [cutR]
 simp [h, h2, h3, h4]
theorem posR_lt {l r : List Int} (h : r <:+ l) (hr : r ≠ []) : posR l r < l.length := by
 have h1 := h.length_le
 have h2 := List.length_pos_iff.2 hr
 unfold posR; omega
theorem Qms {l : List Int} : (Qaf l).2 = false → (Qaf l).1 ≠ [] := by
  intro h
  match l with
  | [] => rw [Qaf] at h; cases h
  | n :: r =>
    rw [Qaf] at h ⊢
    split
    · rename_i h1; rw [if_pos h1] at h; exact Qms h
    · rename_i h1
      rw [if_neg h1] at h
      split
      · rename_i h2; rw [if_pos h2] at h; exact Qms h
      · rename_i h2
        rw [if_neg h2] at h
        split
        · rename_i h3
          rw [if_pos h3] at h
          split
          · rename_i h4; rw [if_pos h4] at h; exact Qms h
          · exact List.cons_ne_nil _ _
        · exact List.cons_ne_nil _ _
termination_by l.length
decreasing_by
 all_goals simp only [List.length_cons]
 all_goals first | omega | (have := Qku r; omega) | (have := Qmm 1 (r.drop 1); simp only [List.length_drop] at this; omega)
theorem next_len {r : List Int} (h : (Qaj r).2.2.2 = true) : (Qaj r).2.2.1 ≤ r.length := by
  have ht : ∀ b : Int → Bool, (r.takeWhile b).length ≤ r.length := fun b => (List.takeWhile_prefix b).length_le
  have hm : ∀ n m : Int, (Qci n m).2 ≤ 2 ∧ ((Qci n m).2 = 2 → m = 62) := fun n m => by
    unfold Qci
    repeat' split
    all_goals simp_all
  unfold Qaj at h ⊢
  simp only at h ⊢
  split
  · split <;> exact ht _
  · rename_i h1
    rw [if_neg h1] at h
    split
    · exact ht _
    · rename_i h2
      rw [if_neg h2] at h
      simp only [decide_eq_true_eq] at h
      obtain ⟨h3, h4⟩ := hm (sgn r 0) (sgn r 1)
      match r with
      | [] =>
        have : (Qci (sgn ([] : List Int) 0) (sgn [] 1)).2 = 0 := by decide
        omega
      | [a] =>
        simp only [List.length_cons, List.length_nil]
        have h5 : (Qci (sgn [a] 0) (sgn [a] 1)).2 ≠ 2 := fun e => by
          have := h4 e
          exact absurd this (show ¬ (-1 : Int) = 62 by decide)
        omega
      | a :: b :: r =>
        simp only [List.length_cons]
        omega
def tokP (x : List Tk × Int × Int) : PV := .tup [.d (.sl (x.1.map encD)), .d (.v (.int .i64 x.2.1)), .d (.v (.int .i64 x.2.2))]
theorem tall_p (s : ByteArray) : PCalls Tryz.prog 171 [.d (.v (.string s))] [] fun p st => p = tokP (tokA s) ∧ st = [] := by
  refine pG Tryz.func171 Tryz.ntmps171 ?_
  refine Jc (uall_p s) ?_
  by_cases hE : allE s = 0
  rotate_left
  · have HT := Hh (show tokA s = ([], Qfd s, allE s) by unfold tokA; rw [if_pos hE])
    refine go_ ?_
    refine rT Tryz.results171 ?_
    exact ⟨by rw [HT.out]; rfl, rfl⟩
  obtain ⟨hl, hr⟩ := signs_ok hE
  have HT := Hh (show tokA s = Qiu (allS s) s.size by unfold tokA; rw [if_neg (by rw [hE]; decide)])
  have HR := Hh hr
  clear hr
  generalize allS s = l at *
  refine go_ ?_
  refine Qab (offsets_p l hl HR.out) ?_
  refine Jd ?_
  intro i0 hi0
  refine go_ ?_
  refine PW_own 9 209 3 (by decide) (by simp [PF.get] <;> rfl) fun g hg => ?_
  refine Qai (ι := Nat × List (Int × ByteArray × Nat)) (fun x => CutI l x.1 x.2) (fun x => [(0, .d (.v (.string s))), (8, .ptr i0 0), (9, .own g (x.2.map fun y => encD (tkRow l y)))]) (fun x => .tok g 209 3 x.2.length :: rdS i0 l (offL l) x.1) (fun x => l.length - x.1) (0, []) ⟨Nat.zero_le _, Nat.zero_le _, rfl⟩ ?_ ?_ ?_
  · exact sU
  · exact dR
  · rintro ⟨i, acc⟩ hI
    have HI := Hh hI
    obtain ⟨hi, hal, -⟩ := hI
    simp only at *
    have hol := offL_len l
    have H0 := Hh (skip_p i0 l (offL l) i hl hol hi)
    have hsuf : (Qaf (l.drop i)).1 <:+ l := (Qed _).trans (List.drop_suffix _ _)
    have hd := Qhd hsuf
    have hple := Qjh l (Qaf (l.drop i)).1
    refine go_ ?_
    refine Re 1 1 (H0.out) ?_
    rintro p st (⟨h1, rfl, rfl⟩ | ⟨h1, rfl, j, rfl⟩)
    · have HS := Hh h1
      clear h1
      by_cases hr : (Qaf (l.drop i)).1 = []
      · have HE := Hh (HI.out.stop (cut_b HS.out hr) s.size)
        have hpos : posR l (Qaf (l.drop i)).1 = l.length := by rw [hr]; rfl
        unfold rdS
        rw [hpos]
        clear hr hsuf hd hple hpos
        refine go_ ?_
        refine Qal [(0, .a), (1, .a), (2, .a), (3, .b), (4, .a), (5, .a), (6, .a), (7, .b), (8, .a), (9, .a)] (by kernel_rfl) (by rfl) (by kernel_rfl) ?_
        refine go_ ?_
        refine Qcb ?_
        refine Qap (acc.length + 1) ?_ ?_ ?_ ?_
        · simp
        · exact Qkz fun _ => rfl
        · exact Qbt rfl
        refine go_ ?_
        refine rT Tryz.results171 ?_
        refine ⟨?_, rfl⟩
        rw [HT.out, HE.out]
        simp only [tokP, List.map_append, List.map_map, List.map_cons, List.map_nil]
        rfl
      · have HC := Hh fun (e : Int) (h : cutR acc.length (l.drop i) = ([], some (e, (Qaf (l.drop i)).1.length))) => HI.out.bad (e := (e, (Qaf (l.drop i)).1.length)) (by rw [h]) s.size
        have HN := Hh (And.intro (fun h3 => cut_c (c := acc.length) HS.out hr h3) (And.intro (fun h3 h4 => cut_d (c := acc.length) HS.out hr h3 h4) (fun h3 h4 => cut_e (c := acc.length) HS.out hr h3 h4)))
        have hlt := posR_lt hsuf hr
        have HL := Hh (show l.length - (Qaf (l.drop i)).1.length = posR l (Qaf (l.drop i)).1 from rfl)
        have hge : i ≤ posR l (Qaf (l.drop i)).1 := by
          have := (Qed (l.drop i)).length_le
          rw [List.length_drop] at this
          unfold posR; omega
        have HD := Hh hd
        have HP := Hh (fun (h : (Qaj (Qaf (l.drop i)).1).2.2.2 = true) => Qia h hr)
        clear hr hsuf hd H0 hple HS
        generalize posR l (Qaf (l.drop i)).1 = j at *
        generalize (Qaf (l.drop i)).1 = r at *
        have H1 := Hh (next_p i0 l (offL l) j hl hol hlt)
        rw [HD.out, offL_get hlt] at H1
        have hja : j < (offL l).length := by omega
        have hx := Qaq hja
        have hxe : (offL l)[j] = offN l j := by
          have := offL_get hlt
          rwa [List.getD_eq_getElem?_getD, List.getElem?_eq_getElem hja] at this
        rw [hxe] at hx
        have hn0 : (0 : Int) ≤ (j : Int) := by omega
        have hc0 : (j : Int) < (l.length : Int) := by omega
        have hc0' : ¬ ((l.length : Int) ≤ (j : Int)) := by omega
        have hc1 : ¬ (l.length ≤ j) := by omega
        have HX := Hh hxe
        clear hxe
        unfold rdS
        refine go_ ?_
        refine Qal [(0, .a), (1, .a), (2, .a), (3, .b), (4, .a), (5, .a), (6, .a), (7, .b), (8, .a), (9, .a)] (by kernel_rfl) (by rfl) (by kernel_rfl) ?_
        refine go_ ?_
        by_cases hbig : 8192 ≤ acc.length
        · have hb1 : (8192 : Int) ≤ (acc.length : Int) := by omega
          have HE := Hh (HC.out 2 (HN.out.1 hbig))
          rw [HL.out] at HE
          refine go_ ?_
          refine Qal [(0, .a), (1, .a), (2, .a), (3, .b), (4, .a), (5, .a), (6, .a), (7, .b), (8, .a), (9, .a), (10, .a), (11, .a), (12, .a)] (by kernel_rfl) (by rfl) (by kernel_rfl) ?_
          refine go_ ?_
          refine rT Tryz.results171 ?_
          exact ⟨by rw [HX.out, HT.out, HE.out]; rfl, rfl⟩
        · have hb1 : ¬ (8192 : Int) ≤ (acc.length : Int) := by omega
          have HNN := Hh hbig
          refine go_ ?_
          refine Re 1 1 (H1.out) ?_
          rintro _ _ ⟨rfl, rfl⟩
          simp only [tkAt, aggD, Qaz, HD.out]
          refine go_ ?_
          refine Je ?_
          intro i1 hi1
          simp only [List.cons_append, List.nil_append, List.append_nil, rdS, Ja, Rh, Rg] at hi1
          refine go_ ?_
          refine Qaa ?_
          cases hk : (Qaj r).2.2.2 with
          | false =>
            have HE := Hh (HC.out 1 (HN.out.2.1 hbig hk))
            rw [HL.out] at HE
            refine go_ ?_
            refine Qal [(0, .a), (1, .b), (2, .a), (3, .a), (4, .a)] (by kernel_rfl) (by rfl) (by kernel_rfl) ?_
            refine go_ ?_
            refine rT Tryz.results171 ?_
            exact ⟨by rw [HT.out, HE.out]; rfl, rfl⟩
          | true =>
            have HE := Hh (HN.out.2.2 hbig hk)
            have HPP := Hh (HP.out hk)
            have HK := Hh hk
            clear hk
            refine go_ ?_
            refine Qcb ?_
            refine Qap (acc.length + 1) ?_ ?_ ?_ ?_
            · simp
            · exact Qkz fun _ => rfl
            · exact Qbt rfl
            refine go_ ?_
            have hpp := HPP.out
            have hle : j + (Qaj r).2.2.1 ≤ l.length := by
              have h1 := next_len HK.out
              have h2 := HL.out
              have h3 : r.length ≤ l.length := by rw [← HD.out, List.length_drop]; omega
              omega
            refine ⟨(j + (Qaj r).2.2.1, acc ++ [((Qaj r).1, (Qaj r).2.1, r.length)]), ⟨hle, by simp only [List.length_append, List.length_cons, List.length_nil]; omega, ?_⟩, by simp only; omega, ?_, ?_⟩
            · rw [← HI.out.2.2, HE.out, ← List.drop_drop, HD.out, List.length_append, List.append_assoc]
              rfl
            · refine Js (by simp [PF.get] <;> rfl) rfl ?_
              refine Js (by simp [PF.get] <;> rfl) rfl ?_
              refine Js (by simp [PF.get] <;> rfl) (by rw [List.map_append]; simp only [List.map_cons, List.map_nil, tkRow, HL.out]) ?_
              exact sU
            · simp only [List.length_append, List.length_cons, List.length_nil, Nat.zero_add]
              exact List.Sublist.cons _ (List.Sublist.refl _)
    · have HE := Hh (HI.out.bad (e := (1, (Qaf (l.drop i)).1.length)) (by rw [cut_a h1]) s.size)
      have HG := Hh (show (offL l)[posR l (Qaf (l.drop i)).1]?.getD 0 = offN l (posR l (Qaf (l.drop i)).1) by
        rw [← List.getD_eq_getElem?_getD]
        exact offL_get (posR_lt hsuf (Qms h1)))
      clear h1
      refine go_ ?_
      refine rT Tryz.results171 ?_
      refine ⟨?_, rfl⟩
      rw [HT.out, HE.out, HG.out]
      rfl
theorem dec_ok : ∀ n < 1000, Qdn (decS n) = true ∧ numT (decS n) = (n : Int) := by decide +kernel
theorem dec_dig : ∀ n < 1000, (decS n).toList = (if n < 10 then [UInt8.ofNat (48 + n)] else if n < 100 then [UInt8.ofNat (48 + n / 10), UInt8.ofNat (48 + n % 10)] else [UInt8.ofNat (48 + n / 100), UInt8.ofNat (48 + n / 10 % 10), UInt8.ofNat (48 + n % 10)]) := by decide +kernel
theorem u8_of (c : UInt8) (n : Nat) (h : c.toNat = n) : UInt8.ofNat n = c := by subst h; simp
theorem toList_inj {a b : ByteArray} (h : a.toList = b.toList) : a = b := by
 apply ByteArray.ext
 rw [ByteArray.toList_eq, ByteArray.toList_eq] at h
 exact Array.toList_inj.1 h
theorem num_dec {s : ByteArray} (h : Qdn s = true) : ∃ n : Nat, n < 1000 ∧ decS n = s := by
  unfold Qdn Qij at h
  simp only [Bool.and_eq_true, decide_eq_true_eq, Bool.not_eq_true', Bool.and_eq_false_iff, List.all_eq_true] at h
  obtain ⟨⟨⟨h1, h2⟩, h3⟩, h4⟩ := h
  match hs : s.toList with
  | [] => rw [hs] at h1; simp at h1
  | [a] =>
    have ha := h4 a (by rw [hs]; simp)
    refine ⟨a.toNat - 48, by omega, toList_inj ?_⟩
    rw [dec_dig _ (by omega), if_pos (by omega), hs, u8_of a _ (by omega)]
  | [a, b] =>
    have ha := h4 a (by rw [hs]; simp)
    have hb := h4 b (by rw [hs]; simp)
    have hz : a.toNat ≠ 48 := by
      intro e
      rw [hs] at h3
      rcases h3 with h3 | h3
      · have : a = 48 := UInt8.toNat_inj.1 e
        subst this; cases h3
      · simp at h3
    refine ⟨(a.toNat - 48) * 10 + (b.toNat - 48), by omega, toList_inj ?_⟩
    rw [dec_dig _ (by omega), if_neg (by omega), if_pos (by omega), hs, u8_of a _ (by omega), u8_of b _ (by omega)]
  | [a, b, c] =>
    have ha := h4 a (by rw [hs]; simp)
    have hb := h4 b (by rw [hs]; simp)
    have hc := h4 c (by rw [hs]; simp)
    have hz : a.toNat ≠ 48 := by
      intro e
      rw [hs] at h3
      rcases h3 with h3 | h3
      · have : a = 48 := UInt8.toNat_inj.1 e
        subst this; cases h3
      · simp at h3
    refine ⟨(a.toNat - 48) * 100 + (b.toNat - 48) * 10 + (c.toNat - 48), by omega, toList_inj ?_⟩
    rw [dec_dig _ (by omega), if_neg (by omega), if_neg (by omega), hs, u8_of a _ (by omega), u8_of b _ (by omega), u8_of c _ (by omega)]
  | a :: b :: c :: d :: l => rw [hs] at h2; simp at h2
theorem rdecn_p (n : Nat) (hn : n ≤ 1000000) : PCalls Tryz.prog 263 [.d (.v (.int .i64 n))] [] fun p s => p = .d (.v (.string (decS n))) ∧ s = [] := by
 refine PCalls.flat ?_ fun K w vs ha => ?_
 ·show (decS n).size ≤ maxLen
  have := (Qnb n (by omega)).2
  rw [maxLen_v]; omega
 ·rw [Qjg ha]; exact rdecimalW_any n (by omega) w
theorem Qnn (s : ByteArray) : PCalls Tryz.prog 231 [.d (.v (.string s))] [] fun p st => p = .tup [.d (.v (.int .i64 (numT s))), .d (.v (.bool (Qdn s)))] ∧ st = [] := by
  refine pG Tryz.func231 Tryz.ntmps231 ?_
  refine Qai (ι := Nat) (fun k => k ≤ 1000 ∧ ∀ n < k, decS n ≠ s) (fun k => [(0, .d (.v (.string s))), (4, .d (.v (.int .i64 k)))]) (fun _ => []) (fun k => 1000 - k) 0 ⟨Nat.zero_le _, fun n h => by omega⟩ ?_ ?_ ?_
  · exact sU
  · exact dR
  · rintro k ⟨hk, hK⟩
    have HK := Hh hK
    clear hK
    by_cases h : k < 1000
    · have hc : (k : Int) < 1000 := by omega
      have hin := Qih h (by omega)
      refine go_ ?_
      refine Jc (rdecn_p k (by omega)) ?_
      cases he : ((decS k).toList == s.toList) with
      | true =>
        have e : decS k = s := toList_inj (beq_iff_eq.1 he)
        have HE := Hh (dec_ok k h)
        rw [e] at HE
        clear hin
        refine go_ ?_
        refine rT Tryz.results231 ?_
        exact ⟨by rw [HE.out.1, HE.out.2]; rfl, rfl⟩
      | false =>
        have HN := Hh (show ∀ n < k + 1, decS n ≠ s by
          intro n hn e
          rcases Nat.lt_or_ge n k with h1 | h1
          · exact HK.out n h1 e
          · obtain rfl : n = k := by omega
            rw [e] at he; simp at he)
        refine go_ ?_
        refine ⟨k + 1, ⟨h, HN.out⟩, by omega, ?_, ?_⟩
        · repeat (first | exact Jt _ | refine Js (by simp [PF.get]; rfl) (by first | rfl | (simp [hin]; done) | fail) ?_)
        · exact dR
    · obtain rfl : k = 1000 := by omega
      have HF := Hh (show Qdn s = false by
        cases hx : Qdn s with
        | false => rfl
        | true =>
          obtain ⟨n, h1, h2⟩ := num_dec hx
          exact absurd h2 (HK.out n h1))
      refine go_ ?_
      refine rT Tryz.results231 ?_
      refine ⟨?_, rfl⟩
      unfold numT
      rw [HF.out]
      rfl
end Go.Proofs.YtdklpbefbamchaaGreat

import Derived.Test.YtahhgpafjiljfaaOBZ
import Derived.Test.YtahhgpafjiljfaaOBV
import Derived.Test.YtahhgpafjiljfaaOBY
import Derived.Test.YtahhgpafjiljfaaOBN
import Derived.Test.YtahhgpafjiljfaaOBM
import Derived.Test.YtahhgpafjiljfaaOBZ1
import Derived.Test.YtahhgpafjiljfaaOT27
import Derived.Test.YtahhgpafjiljfaaOBW
set_option linter.unusedSimpArgs false
set_option linter.unusedVariables false
set_option maxHeartbeats 16000000
set_option maxRecDepth 100000
namespace Go.Proofs.Ytahhgpafjiljfaa
open Go.RowKit
def kt (t : Tk) : Int × ByteArray := (t.kind, t.text)
def Sees (l : List Tk) (i : Nat) (ts : List (Int × ByteArray)) : Prop := ∃ r, (l.drop i).map kt = ts ++ r
theorem Sees.app {l : List Tk} {i : Nat} {a b : List (Int × ByteArray)} (h : Sees l i (a ++ b)) : Sees l (i + a.length) b := by
 obtain ⟨r, h⟩ := h
 refine ⟨r, ?_⟩
 rw [← List.drop_drop, List.map_drop, h, List.append_assoc, List.drop_left]
theorem Sees.pre {l : List Tk} {i : Nat} {a b : List (Int × ByteArray)} (h : Sees l i (a ++ b)) : Sees l i a := by
 obtain ⟨r, h⟩ := h
 exact ⟨b ++ r, by rw [h, List.append_assoc]⟩
theorem Sees.tl {l : List Tk} {i : Nat} {x : Int × ByteArray} {b : List (Int × ByteArray)} (h : Sees l i (x :: b)) : Sees l (i + 1) b := Sees.app (a := [x]) h
theorem Sees.hd {l : List Tk} {i : Nat} {x : Int × ByteArray} {b : List (Int × ByteArray)} (h : Sees l i (x :: b)) : (tkg l i).kind = x.1 ∧ (tkg l i).text = x.2 ∧ i < l.length := by
 obtain ⟨r, h⟩ := h
 have hi : i < l.length := by
  apply Nat.lt_of_not_le
  intro hle
  rw [List.drop_of_length_le hle] at h; cases h
 rw [List.drop_eq_getElem_cons hi] at h
 have h2 : kt l[i] = x := (List.cons.inj h).1
 rw [tkg_lt hi, ← h2]
 exact ⟨rfl, rfl, hi⟩
def mB (x : Int × ByteArray) (s : ByteArray) : Bool := (x.1 == 4 || x.1 == 2) && x.2.toList == s.toList
def nB (x : Int × ByteArray) : Bool := x.1 == 1 && !(x.2.toList == [95])
theorem Qan {l : List Tk} {i k : Nat} {x : Int × ByteArray} {b : List (Int × ByteArray)} (h : Sees l (i + k) (x :: b)) (a e : Int) (s : ByteArray) : isS l ⟨i, a, e⟩ k s = mB x s := by
 unfold isS markB' mB
 show (((tkg l (i + k)).kind == 4 || (tkg l (i + k)).kind == 2) && (tkg l (i + k)).text.toList == s.toList) = _
 rw [h.hd.1, h.hd.2.1]
theorem Qkk {l : List Tk} {i : Nat} {x : Int × ByteArray} {b : List (Int × ByteArray)} (h : Sees l i (x :: b)) (a e : Int) : Qcy l ⟨i, a, e⟩ 0 = nB x := by
 unfold Qcy namedK nB
 show ((tkg l (i + 0)).kind == 1 && !((tkg l (i + 0)).text.toList == [95])) = _
 rw [Nat.add_zero, h.hd.1, h.hd.2.1]
theorem Qbr {l : List Tk} {i : Nat} {x : Int × ByteArray} {b : List (Int × ByteArray)} {s : ByteArray} (h : Sees l i (x :: b)) (hm : mB x s = true) (a : Int) : Qaf l s ⟨i, a, 0⟩ = ⟨i + 1, a, 0⟩ := by
 unfold Qaf
 rw [Qan (k := 0) (x := x) (b := b) h, hm]
 rfl
theorem Qif {l : List Tk} {i : Nat} {x : Int × ByteArray} {b : List (Int × ByteArray)} (h : Sees l i (x :: b)) (hm : nB x = true) (a : Int) : Qal l ⟨i, a, 0⟩ = (x.2, ⟨i + 1, a, 0⟩) := by
 unfold Qal
 rw [Qkk h, hm]
 show ((tkg l i).text, _) = _
 rw [h.hd.2.1]; rfl
theorem var_sees {l : List Tk} {i : Nat} {s : ByteArray} {b : List (Int × ByteArray)} (h : Sees l i ((1, s) :: b)) (a : Int) : Qbk l ⟨i, a, 0⟩ = (s, ⟨i + 1, a, 0⟩) := by
 unfold Qbk
 show (if ((tkg l i).kind == 1 && (0 : Int) == 0) = true then ((tkg l i).text, _) else _) = _
 rw [h.hd.1, h.hd.2.1]; rfl
def Qhn (b : Bool) (l : List (Int × ByteArray)) : List (Int × ByteArray) := if b then [(4, sPar)] ++ l ++ [(4, sRap)] else l
def inT : Nd → List (Int × ByteArray)
  | .mk k _ s _ [x, y] =>
    if k = 5 then Qhn (par x 1) (inT x) ++ Qhn (par y 2) (inT y)
    else if k = 3 ∧ s = ⟨#[95]⟩ then Qhn (par x 1) (inT x) ++ [(4, sArr)] ++ Qhn (par y 0) (inT y)
    else (if k = 4 then [(4, sLam)] else []) ++ ([(4, sPar), (1, s), (4, sCol)] ++ Qhn (par x 0) (inT x) ++ [(4, sRap), (4, sArr)] ++ Qhn (par y 0) (inT y))
  | .mk k _ s n _ => if k = 1 then [(1, s)] else [(2, sSet)] ++ (if 0 < n then [(3, numS n)] else [])
def exT (t : Nd) (lv : Int) : List (Int × ByteArray) := Qhn (par t lv) (inT t)
theorem par0 (t : Nd) : par t 0 = false := by unfold par; simp
theorem ex0 (t : Nd) : exT t 0 = inT t := by unfold exT; rw [par0]; rfl
theorem ex1_5 {t : Nd} (h : t.kind = 5) : exT t 1 = inT t := by
 unfold exT par; rw [h]; rfl
theorem ex12 {t : Nd} (h : t.kind ≠ 5) : exT t 2 = exT t 1 := by
 unfold exT par
 congr 1
 rw [decide_eq_decide]
 constructor
 ·rintro (⟨h1, -⟩ | ⟨h1, -⟩)
  ·exact .inl ⟨h1, by omega⟩
  ·exact absurd h1 h
 ·rintro (⟨h1, -⟩ | ⟨h1, -⟩)
  ·exact .inl ⟨h1, by omega⟩
  ·exact absurd h1 h
theorem ex2_345 {t : Nd} (h : t.kind = 3 ∨ t.kind = 4 ∨ t.kind = 5) : exT t 2 = [(4, sPar)] ++ inT t ++ [(4, sRap)] := by
 unfold exT
 have : par t 2 = true := by
  unfold par
  rw [decide_eq_true_eq]
  rcases h with h | h | h
  ·exact .inl ⟨.inl h, by omega⟩
  ·exact .inl ⟨.inr h, by omega⟩
  ·exact .inr ⟨h, by omega⟩
 rw [this]; rfl
theorem Qiv (k a n : Int) (s : ByteArray) (x y : Nd) (h : k = 5) : inT (.mk k a s n [x, y]) = exT x 1 ++ exT y 2 := by
 rw [inT, if_pos h]; rfl
theorem Qji (k a n : Int) (s : ByteArray) (x y : Nd) (h : k = 3) (hs : s = ⟨#[95]⟩) : inT (.mk k a s n [x, y]) = exT x 1 ++ [(4, sArr)] ++ exT y 0 := by
 rw [inT, if_neg (by omega), if_pos ⟨h, hs⟩]; rfl
def binT (s : ByteArray) (x y : Nd) : List (Int × ByteArray) := [(4, sPar), (1, s), (4, sCol)] ++ exT x 0 ++ [(4, sRap), (4, sArr)] ++ exT y 0
theorem inT_pi (k a n : Int) (s : ByteArray) (x y : Nd) (h : k = 3) (hs : ¬ s = ⟨#[95]⟩) : inT (.mk k a s n [x, y]) = binT s x y := by
 rw [inT, if_neg (by omega), if_neg (by simp [hs]), if_neg (by omega)]; rfl
theorem inT_lam (k a n : Int) (s : ByteArray) (x y : Nd) (h : k = 4) : inT (.mk k a s n [x, y]) = (4, sLam) :: binT s x y := by
 rw [inT, if_neg (by omega), if_neg (by omega), if_pos h]; rfl
theorem Qht (k a n : Int) (s : ByteArray) (h : k = 1) : inT (.mk k a s n []) = [(1, s)] := by
 rw [inT, if_pos h]
 intros; simp_all
theorem Qiw (k a n : Int) (s : ByteArray) (h : k = 2) : inT (.mk k a s n []) = (2, sSet) :: (if 0 < n then [(3, numS n)] else []) := by
 rw [inT, if_neg (by omega)]
 ·rfl
 intros; simp_all
theorem Qgu {s : ByteArray} (h : Qaj s = true) : (s.toList == [95]) = false := by
  unfold Qaj at h
  simp only [Bool.and_eq_true, beq_iff_eq] at h
  rw [under_iff s h.1.1.1.1]
  have h2 := h.2
  cases hl : (allS s == [95]) with
  | false => rfl
  | true =>
    rw [beq_iff_eq] at hl
    rw [hl] at h2
    exact absurd h2 (by decide +kernel)
theorem Qgg {s : ByteArray} (h : s.toList.isEmpty = true) : s = ⟨#[]⟩ := by
 refine toList_inj ?_
 rw [List.isEmpty_iff] at h
 rw [h, ByteArray.toList_eq]
theorem Qgx {k a n : Int} {s : ByteArray} {sub : List Nd} (h : Qak (.mk k a s n sub) false = true) :
  (k = 1 ∧ sub = [] ∧ Qaj s = true ∧ n = 0) ∨ (k = 2 ∧ sub = [] ∧ 0 ≤ n ∧ n ≤ 7 ∧ s = ⟨#[]⟩) ∨ ∃ x y, sub = [x, y] ∧ Qak x false = true ∧ Qak y false = true ∧ n = 0 ∧ (k = 3 ∧ (s = ⟨#[95]⟩ ∨ Qaj s = true) ∨ k = 4 ∧ (s = ⟨#[95]⟩ ∨ Qaj s = true) ∨ k = 5 ∧ s = ⟨#[]⟩) := by
 have h0 := ex_cases h
 rw [Qcs] at h
 simp only [Bool.and_eq_true, decide_eq_true_eq, beq_iff_eq] at h
 obtain ⟨⟨⟨⟨⟨-, -⟩, h3⟩, h4⟩, -⟩, -⟩ := h
 unfold Qch at h3
 unfold numB at h4
 have hor : (s.toList == [95] || Qaj s) = true → s = ⟨#[95]⟩ ∨ Qaj s = true := by
  intro hx
  rw [Bool.or_eq_true] at hx
  rcases hx with hx | hx
  ·exact .inl (toList_inj (by rw [beq_iff_eq.1 hx, ByteArray.toList_eq]))
  ·exact .inr hx
 rcases h0 with ⟨rfl, rfl⟩ | ⟨rfl, rfl, hn0, hn7⟩ | ⟨x, y, hk, rfl, hx, hy⟩
 ·rw [if_pos (by decide +kernel)] at h3
  rw [if_neg (by decide +kernel)] at h4
  exact .inl ⟨rfl, rfl, h3, beq_iff_eq.1 h4⟩
 ·rw [if_neg (by decide +kernel), if_neg (by decide +kernel)] at h3
  exact .inr (.inl ⟨rfl, rfl, hn0, hn7, Qgg h3⟩)
 ·rw [if_neg (by omega)] at h4
  refine .inr (.inr ⟨x, y, rfl, hx, hy, beq_iff_eq.1 h4, ?_⟩)
  rcases hk with rfl | rfl | rfl
  ·rw [if_neg (by decide +kernel), if_pos (by decide +kernel)] at h3
   exact .inl ⟨rfl, hor h3⟩
  ·rw [if_neg (by decide +kernel), if_pos (by decide +kernel)] at h3
   exact .inr (.inl ⟨rfl, hor h3⟩)
  ·rw [if_neg (by decide +kernel), if_neg (by decide +kernel)] at h3
   exact .inr (.inr ⟨rfl, Qgg h3⟩)
def Beg (x : Int × ByteArray) : Prop := nB x = true ∧ x.1 = 1 ∨ x = (2, sSet) ∨ x = (4, sPar)
theorem Beg.col {x : Int × ByteArray} (h : Beg x) : mB x sCol = false := by
 rcases h with ⟨-, h⟩ | rfl | rfl
 ·unfold mB; rw [h]; rfl
 ·decide +kernel
 ·decide +kernel
theorem Beg.three {x : Int × ByteArray} (h : Beg x) : x.1 ≠ 3 := by
 rcases h with ⟨-, h⟩ | rfl | rfl
 ·rw [h]; decide +kernel
 ·decide +kernel
 ·decide +kernel
theorem Qgt : ∀ (m : Nat) (t : Nd), SizeOf.sizeOf t ≤ m → Qak t false = true → ∀ lv, 1 ≤ lv → lv ≤ 2 → ∃ x ts, exT t lv = x :: ts ∧ Beg x := by
  intro m
  induction m with
  | zero => intro t h; cases t; simp at h
  | succ m ih =>
    intro t hm hg lv h1 h2
    by_cases hp : par t lv = true
    · unfold exT; rw [hp]
      exact ⟨_, _, rfl, .inr (.inr rfl)⟩
    · unfold exT; rw [Bool.not_eq_true] at hp; rw [hp]
      show ∃ x ts, inT t = x :: ts ∧ _
      obtain ⟨k, a, s, n, sub⟩ := t
      rcases Qgx hg with ⟨rfl, rfl, hr, -⟩ | ⟨rfl, rfl, -, -, -⟩ | ⟨x, y, rfl, hx, hy, -, hk⟩
      · rw [Qht _ _ _ _ rfl]
        exact ⟨_, _, rfl, .inl ⟨by unfold nB; rw [Qgu hr]; rfl, rfl⟩⟩
      · rw [Qiw _ _ _ _ rfl]
        exact ⟨_, _, rfl, .inr (.inl rfl)⟩
      · have h5 : k = 5 := by
          unfold par at hp
          rw [decide_eq_false_iff_not] at hp
          have hkk : (Nd.mk k a s n [x, y]).kind = k := rfl
          rw [hkk] at hp
          rcases hk with ⟨rfl, -⟩ | ⟨rfl, -⟩ | ⟨rfl, -⟩
          · exact absurd (.inl ⟨.inl rfl, h1⟩) hp
          · exact absurd (.inl ⟨.inr rfl, h1⟩) hp
          · rfl
        rw [Qiv _ _ _ _ _ _ h5]
        obtain ⟨z, ts, e, hz⟩ := ih x (by simp at hm; omega) hx 1 (by omega) (by omega)
        rw [e]
        exact ⟨z, _, rfl, hz⟩
theorem ex_second : ∀ (m : Nat) (t : Nd), SizeOf.sizeOf t ≤ m → Qak t false = true → ∀ lv z, mB z sCol = false → ∀ a b r, exT t lv ++ [z] = a :: b :: r → a.1 = 1 → mB b sCol = false := by
  intro m
  induction m with
  | zero => intro t h; cases t; simp at h
  | succ m ih =>
    intro t hm hg lv z hz a b r he ha
    by_cases hp : par t lv = true
    · unfold exT at he; rw [hp] at he
      have := (List.cons.inj he).1
      rw [← this] at ha; cases ha
    · unfold exT at he; rw [Bool.not_eq_true] at hp; rw [hp] at he
      replace he : inT t ++ [z] = a :: b :: r := he
      obtain ⟨k, a', s, n, sub⟩ := t
      have key : ∀ (x : Nd) (w : Int × ByteArray) (q : List (Int × ByteArray)), SizeOf.sizeOf x ≤ m → Qak x false = true → mB w sCol = false → exT x 1 ++ (w :: q) = a :: b :: r → mB b sCol = false := by
        intro x w q hxm hx hw e
        obtain ⟨z1, ts, e1, -⟩ := Qgt m x hxm hx 1 (by omega) (by omega)
        have e2 : exT x 1 ++ [w] ++ q = a :: b :: r := by rw [← e]; simp
        rw [e1] at e2
        cases ts with
        | nil =>
          have e3 := (List.cons.inj (List.cons.inj e2).2).1
          rw [← e3]; exact hw
        | cons t2 ts =>
          have e3 := (List.cons.inj (List.cons.inj e2).2).1
          have e4 := (List.cons.inj e2).1
          refine ih x hxm hx 1 w hw z1 t2 (ts ++ [w]) (by rw [e1]; rfl) (by rw [e4]; exact ha) |> fun hq => ?_
          rw [← e3]; exact hq
      rcases Qgx hg with ⟨rfl, rfl, hr, -⟩ | ⟨rfl, rfl, -, -, -⟩ | ⟨x, y, rfl, hx, hy, -, hk⟩
      · rw [Qht _ _ _ _ rfl] at he
        have e3 := (List.cons.inj (List.cons.inj he).2).1
        rw [← e3]; exact hz
      · rw [Qiw _ _ _ _ rfl] at he
        have e3 := (List.cons.inj he).1
        rw [← e3] at ha; cases ha
      · simp only [Nd.mk.sizeOf_spec, List.cons.sizeOf_spec] at hm
        rcases hk with ⟨rfl, hs⟩ | ⟨rfl, -⟩ | ⟨rfl, -⟩
        · by_cases h9 : s = ⟨#[95]⟩
          · rw [Qji _ _ _ _ _ _ rfl h9, List.append_assoc, List.append_assoc] at he
            exact key x _ _ (by omega) hx (by decide +kernel) he
          · rw [inT_pi _ _ _ _ _ _ rfl h9] at he
            have e3 := (List.cons.inj he).1
            rw [← e3] at ha; cases ha
        · rw [inT_lam _ _ _ _ _ _ rfl] at he
          have e3 := (List.cons.inj he).1
          rw [← e3] at ha; cases ha
        · rw [Qiv _ _ _ _ _ _ rfl, List.append_assoc] at he
          obtain ⟨w, q, e1, hw⟩ := Qgt m y (by omega) hy 2 (by omega) (by omega)
          rw [e1] at he
          exact key x w (q ++ [z]) (by omega) hx hw.col he
theorem in_ne {t : Nd} (hg : Qak t false = true) : ∃ x ts, inT t = x :: ts := by
 obtain ⟨k, a, s, n, sub⟩ := t
 rcases Qgx hg with ⟨rfl, rfl, -, -⟩ | ⟨rfl, rfl, -, -, -⟩ | ⟨x, y, rfl, hx, hy, -, hk⟩
 ·rw [Qht _ _ _ _ rfl]; exact ⟨_, _, rfl⟩
 ·rw [Qiw _ _ _ _ rfl]; exact ⟨_, _, rfl⟩
 ·obtain ⟨z, ts, e, -⟩ := Qgt _ x (Nat.le_refl _) hx 1 (by omega) (by omega)
  rcases hk with ⟨rfl, -⟩ | ⟨rfl, -⟩ | ⟨rfl, -⟩
  ·by_cases h9 : s = ⟨#[95]⟩
   ·rw [Qji _ _ _ _ _ _ rfl h9, e]; exact ⟨_, _, rfl⟩
   ·rw [inT_pi _ _ _ _ _ _ rfl h9]; exact ⟨_, _, rfl⟩
  ·rw [inT_lam _ _ _ _ _ _ rfl]; exact ⟨_, _, rfl⟩
  ·rw [Qiv _ _ _ _ _ _ rfl, e]; exact ⟨_, _, rfl⟩
theorem no_binder_m (l : List Tk) (a e : Int) : ∀ (m : Nat) (t : Nd), SizeOf.sizeOf t ≤ m → Qak t false = true → ∀ lv i z, 1 ≤ lv → lv ≤ 2 → mB z sCol = false → Sees l i (exT t lv ++ [z]) → Qdi l ⟨i, a, e⟩ = false := by
  intro m
  induction m with
  | zero => intro t h; cases t; simp at h
  | succ m ih =>
    intro t hm hg lv i z h1 h2 hz h
    by_cases hp : par t lv = true
    · unfold exT at h; rw [hp] at h
      have h3 : Sees l i ((4, sPar) :: (inT t ++ [(4, sRap)] ++ [z])) := by simpa [Qhn] using h
      have h4 : Sees l (i + 1) (exT t 0 ++ [(4, sRap)]) := by
        have := h3.tl
        rw [ex0]; exact this.pre
      obtain ⟨x, ts, e1⟩ := in_ne hg
      have hne : ∃ a b r, exT t 0 ++ [(4, sRap)] = a :: b :: r := by
        rw [ex0, e1]
        cases ts with
        | nil => exact ⟨_, _, _, rfl⟩
        | cons b ts => exact ⟨_, _, _, rfl⟩
      obtain ⟨p, q, r, e2⟩ := hne
      have h5 := ex_second _ t (Nat.le_refl _) hg 0 (4, sRap) (by decide +kernel) p q r e2
      rw [e2] at h4
      unfold Qdi
      show (isS l ⟨i, a, e⟩ 0 sPar && (tkg l (i + 1)).kind == 1 && isS l ⟨i, a, e⟩ 2 sCol) = false
      have h6 : Sees l (i + 2) (q :: r) := h4.tl
      rw [h4.hd.1, Qan h6]
      cases hq : (p.1 == 1) with
      | false => rw [Bool.and_false, Bool.false_and]
      | true => rw [h5 (beq_iff_eq.1 hq), Bool.and_false]
    · rw [Bool.not_eq_true] at hp
      have hE : exT t lv = inT t := by unfold exT; rw [hp]; rfl
      obtain ⟨k, a', s, n, sub⟩ := t
      rw [hE] at h
      rcases Qgx hg with ⟨rfl, rfl, -, -⟩ | ⟨rfl, rfl, -, -, -⟩ | ⟨x, y, rfl, hx, hy, -, hk⟩
      · rw [Qht _ _ _ _ rfl] at h
        unfold Qdi
        rw [Qan (k := 0) h]; rfl
      · rw [Qiw _ _ _ _ rfl] at h
        unfold Qdi
        rw [Qan (k := 0) h]
        rw [show mB (2, sSet) sPar = false by decide +kernel]; rfl
      · have h5 : k = 5 := by
          unfold par at hp
          rw [decide_eq_false_iff_not] at hp
          have hkk : (Nd.mk k a' s n [x, y]).kind = k := rfl
          rw [hkk] at hp
          rcases hk with ⟨rfl, -⟩ | ⟨rfl, -⟩ | ⟨rfl, -⟩
          · exact absurd (.inl ⟨.inl rfl, h1⟩) hp
          · exact absurd (.inl ⟨.inr rfl, h1⟩) hp
          · rfl
        simp only [Nd.mk.sizeOf_spec, List.cons.sizeOf_spec] at hm
        rw [Qiv _ _ _ _ _ _ h5, List.append_assoc] at h
        obtain ⟨w, q, e1, hw⟩ := Qgt _ y (Nat.le_refl _) hy 2 (by omega) (by omega)
        rw [e1] at h
        refine ih x (by omega) hx 1 i w (by omega) (by omega) hw.col ?_
        refine Sees.pre (b := q ++ [z]) ?_
        simpa using h
theorem Qli {l : List Tk} {i : Nat} {t : Nd} {lv : Int} {z : Int × ByteArray} (hg : Qak t false = true) (h1 : 1 ≤ lv) (h2 : lv ≤ 2) (hz : mB z sCol = false) (h : Sees l i (exT t lv ++ [z])) (a e : Int) : Qdi l ⟨i, a, e⟩ = false :=
 no_binder_m l a e _ t (Nat.le_refl _) hg lv i z h1 h2 hz h
def Q2 (l : List Tk) (t : Nd) : Prop := ∀ n i a z, 6 * (exT t 2).length + 3 ≤ n → Sees l i (exT t 2 ++ [z]) → z.1 ≠ 3 → ∃ t', Qbn l n ⟨i, a, 0⟩ = (t', ⟨i + (exT t 2).length, a, 0⟩) ∧ eNd t' = eNd t
def Q1 (l : List Tk) (t : Nd) : Prop := ∀ n i a z, 6 * (exT t 1).length + 5 ≤ n → Sees l i (exT t 1 ++ [z]) → z.1 ≠ 3 → mB z sCol = false → ∃ t' m, appS l n ⟨i, a, 0⟩ = appL l m t' ⟨i + (exT t 1).length, a, 0⟩ ∧ n ≤ m + 6 * (exT t 1).length ∧ eNd t' = eNd t
structure Cl (z : Int × ByteArray) : Prop where
 three : z.1 ≠ 3
 name : nB z = false
 set : mB z sSet = false
 par : mB z sPar = false
 arr : mB z sArr = false
 col : mB z sCol = false
def Q0 (l : List Tk) (t : Nd) : Prop := ∀ n i a z, 6 * (exT t 0).length + 6 ≤ n → Sees l i (exT t 0 ++ [z]) → Cl z → ∃ t', Qav l n ⟨i, a, 0⟩ = (t', ⟨i + (exT t 0).length, a, 0⟩) ∧ eNd t' = eNd t
theorem ex_pos {t : Nd} (hg : Qak t false = true) (lv : Int) : 1 ≤ (exT t lv).length := by
 obtain ⟨x, ts, e⟩ := in_ne hg
 unfold exT Qhn
 split
 ·simp
 ·rw [e]; simp
theorem Qkq {l : List Tk} {t : Nd} (hg : Qak t false = true) (hk : t.kind ≠ 5) (h : Q2 l t) : Q1 l t := by
 intro n i a z hn hs h3 _
 have hp := ex_pos hg 1
 rw [← ex12 hk] at hn hs hp ⊢
 obtain ⟨n', rfl⟩ : ∃ n', n = n' + 1 := ⟨n - 1, by omega⟩
 obtain ⟨t', e, ht⟩ := h n' i a z (by omega) hs h3
 refine ⟨t', n', ?_, by omega, ht⟩
 rw [appS, e]
theorem appL_stop {l : List Tk} {m : Nat} {t : Nd} {i : Nat} {a : Int} (h : Qgc l ⟨i, a, 0⟩ = false) : appL l m t ⟨i, a, 0⟩ = (t, ⟨i, a, 0⟩) := by
 cases m with
 | zero => rfl
 | succ m => rw [appL, if_neg (by rw [h]; simp)]
theorem Qjo {l : List Tk} {i : Nat} {z : Int × ByteArray} {r : List (Int × ByteArray)} (h : Sees l i (z :: r)) (a e : Int) : Qgc l ⟨i, a, e⟩ = (nB z || mB z sSet || (mB z sPar && !Qdi l ⟨i, a, e⟩)) := by
 unfold Qgc
 rw [Qkk h, Qan (k := 0) h, Qan (k := 0) h]
theorem Cl.stop {l : List Tk} {i : Nat} {z : Int × ByteArray} {r : List (Int × ByteArray)} (hz : Cl z) (h : Sees l i (z :: r)) (a e : Int) : Qgc l ⟨i, a, e⟩ = false := by
 rw [Qjo h, hz.name, hz.set, hz.par]; rfl
theorem q0_of_q1 {l : List Tk} {t : Nd} (hg : Qak t false = true) (hk : exT t 0 = exT t 1) (h : Q1 l t) : Q0 l t := by
 intro n i a z hn hs hz
 rw [hk] at hn hs ⊢
 obtain ⟨n', rfl⟩ : ∃ n', n = n' + 1 := ⟨n - 1, by omega⟩
 obtain ⟨t', m, e, -, ht⟩ := h n' i a z (by omega) hs hz.three hz.col
 obtain ⟨x, ts, e1, hb⟩ := Qgt _ t (Nat.le_refl _) hg 1 (by omega) (by omega)
 have hl : isS l ⟨i, a, 0⟩ 0 sLam = false := by
  have h2 := hs
  rw [e1] at h2
  rw [Qan (k := 0) h2]
  rcases hb with ⟨-, hb⟩ | rfl | rfl
  ·unfold mB; rw [hb]; rfl
  ·decide +kernel
  ·decide +kernel
 have hnb := Qli hg (by omega) (by omega) hz.col hs a 0
 have hstop := hz.stop hs.app a 0
 rw [appL_stop hstop] at e
 refine ⟨t', ?_, ht⟩
 rw [Qav, if_neg (by simp), hl, hnb]
 simp only [Bool.false_eq_true, if_false, e]
 have h4 : isS l ⟨i + (exT t 1).length, a, 0⟩ 0 sArr = false := by rw [Qan (k := 0) (i := i + (exT t 1).length) hs.app, hz.arr]
 rw [if_neg (by rw [h4]; simp)]
theorem cl_rap : Cl (4, sRap) := ⟨by decide +kernel, by decide +kernel, by decide +kernel, by decide +kernel, by decide +kernel, by decide +kernel⟩
theorem q2_of_q0 {l : List Tk} {t : Nd} (hk : t.kind = 3 ∨ t.kind = 4 ∨ t.kind = 5) (h : Q0 l t) : Q2 l t := by
 intro n i a z hn hs h3
 have hE := ex2_345 hk
 rw [← ex0 t] at hE
 rw [hE] at hn hs ⊢
 simp only [List.length_append, List.length_cons, List.length_nil] at hn ⊢
 obtain ⟨n', rfl⟩ : ∃ n', n = n' + 1 := ⟨n - 1, by omega⟩
 have s1 : Sees l i ((4, sPar) :: (exT t 0 ++ [(4, sRap)] ++ [z])) := by simpa using hs
 have s2 : Sees l (i + 1) (exT t 0 ++ [(4, sRap)]) := s1.tl.pre
 obtain ⟨t', e, ht⟩ := h n' (i + 1) a (4, sRap) (by omega) s2 cl_rap
 refine ⟨t', ?_, ht⟩
 rw [Qbn, if_neg (by simp), Qan (k := 0) s1, Qan (k := 0) s1]
 rw [show mB (4, sPar) sSet = false by decide +kernel, show mB (4, sPar) sPar = true by decide +kernel]
 simp only [Bool.false_eq_true, if_false, if_true]
 rw [show incS ⟨i, a, 0⟩ = ⟨i + 1, a, 0⟩ from rfl, e]
 simp only
 rw [Qbr s2.app (by decide +kernel)]
 congr 2
 omega
theorem typed_sees {l : List Tk} {x y : Nd} (hx : Q0 l x) (hy : Q0 l y) (s : ByteArray) (n i : Nat) (a k b : Int) (z : Int × ByteArray) (hn : 6 * (binT s x y).length + 5 ≤ n) (h : Sees l i (binT s x y ++ [z])) (hz : Cl z) : ∃ x' y', Qdg l n k b ⟨i, a, 0⟩ = (.mk k b s 0 [x', y'], ⟨i + (binT s x y).length, a, 0⟩) ∧ eNd x' = eNd x ∧ eNd y' = eNd y := by
 have hlen : (binT s x y).length = 3 + (exT x 0).length + 2 + (exT y 0).length := by
  unfold binT; simp only [List.length_append, List.length_cons, List.length_nil]
 rw [hlen] at hn ⊢
 obtain ⟨n', rfl⟩ : ∃ n', n = n' + 1 := ⟨n - 1, by omega⟩
 have s0 : Sees l i ((4, sPar) :: (1, s) :: (4, sCol) :: (exT x 0 ++ ((4, sRap) :: (4, sArr) :: (exT y 0 ++ [z])))) := by
  have := h
  unfold binT at this
  simpa using this
 have s3 : Sees l (i + 3) (exT x 0 ++ ((4, sRap) :: (4, sArr) :: (exT y 0 ++ [z]))) := s0.tl.tl.tl
 have s4 := s3.app
 obtain ⟨x', ex, hx'⟩ := hx n' (i + 3) a (4, sRap) (by omega) (Sees.pre (b := (4, sArr) :: (exT y 0 ++ [z])) (by simpa using s3)) cl_rap
 obtain ⟨y', ey, hy'⟩ := hy n' (i + 3 + (exT x 0).length + 2) a z (by omega) s4.tl.tl hz
 refine ⟨x', y', ?_, hx', hy'⟩
 rw [Qdg]
 simp only [Qbr s0 (show mB (4, sPar) sPar = true by decide +kernel), var_sees s0.tl, Qbr s0.tl.tl (show mB (4, sCol) sCol = true by decide +kernel)]
 rw [show i + 1 + 1 + 1 = i + 3 from rfl, ex]
 simp only [Qbr s4 (show mB (4, sRap) sRap = true by decide +kernel), Qbr s4.tl (show mB (4, sArr) sArr = true by decide +kernel)]
 rw [show i + 3 + (exT x 0).length + 1 + 1 = i + 3 + (exT x 0).length + 2 from rfl, ey]
 simp only
 congr 2
 omega
theorem num_set : ∀ n < 8, 0 < n → numT (numS (n : Nat)) = (n : Int) := by decide +kernel
theorem expr_read (l : List Tk) : ∀ (m : Nat) (t : Nd), SizeOf.sizeOf t ≤ m → Qak t false = true → Q0 l t ∧ Q1 l t ∧ Q2 l t := by
  intro m
  induction m with
  | zero => intro t h; cases t; simp at h
  | succ m ih =>
    intro t hm hg
    obtain ⟨k, a0, s, n0, sub⟩ := t
    have hgo := hg
    rcases Qgx hg with ⟨rfl, rfl, hr, rfl⟩ | ⟨rfl, rfl, hn0, hn7, rfl⟩ | ⟨x, y, rfl, hx, hy, rfl, hk⟩
    · have hT : ∀ lv, exT (.mk 1 a0 s 0 []) lv = [(1, s)] := fun lv => by
        unfold exT
        rw [show par (.mk 1 a0 s 0 []) lv = false by unfold par; simp [Nd.kind], Qht _ _ _ _ rfl]; rfl
      have h2 : Q2 l (.mk 1 a0 s 0 []) := by
        intro n i a z hn hs h3
        rw [hT] at hn hs ⊢
        obtain ⟨n', rfl⟩ : ∃ n', n = n' + 1 := ⟨n - 1, by omega⟩
        refine ⟨.mk 1 (tkg l i).at_ s 0 [], ?_, rfl⟩
        rw [Qbn, if_neg (by simp), Qan (k := 0) hs, Qan (k := 0) hs]
        rw [show mB (1, s) sSet = false from rfl, show mB (1, s) sPar = false from rfl]
        simp only [Bool.false_eq_true, if_false]
        rw [Qif hs (by unfold nB; rw [Qgu hr]; rfl)]
        rfl
      have h1 := Qkq hg (by show (1 : Int) ≠ 5; decide +kernel) h2
      exact ⟨q0_of_q1 hg (by rw [hT, hT]) h1, h1, h2⟩
    · have hT : ∀ lv, exT (.mk 2 a0 ⟨#[]⟩ n0 []) lv = (2, sSet) :: (if 0 < n0 then [(3, numS n0)] else []) := fun lv => by
        unfold exT
        rw [show par (.mk 2 a0 ⟨#[]⟩ n0 []) lv = false by unfold par; simp [Nd.kind], Qiw _ _ _ _ rfl]; rfl
      have h2 : Q2 l (.mk 2 a0 ⟨#[]⟩ n0 []) := by
        intro n i a z hn hs h3
        rw [hT] at hn hs ⊢
        obtain ⟨n', rfl⟩ : ∃ n', n = n' + 1 := ⟨n - 1, by omega⟩
        have hs0 := hs
        rw [List.cons_append] at hs0
        refine ⟨.mk 2 (tkg l i).at_ ⟨#[]⟩ n0 [], ?_, rfl⟩
        rw [Qbn, if_neg (by simp), Qan (k := 0) hs0]
        rw [show mB (2, sSet) sSet = true by decide +kernel]
        simp only [if_true]
        by_cases hp : 0 < n0
        · rw [if_pos hp] at hs ⊢
          have hs1 : Sees l (i + 1) ((3, numS n0) :: [z]) := hs.tl
          obtain ⟨q, rfl⟩ := Int.eq_ofNat_of_zero_le hn0
          have hk3 : (tkg l (i + 1)).kind = 3 := hs1.hd.1
          have ht3 : (tkg l (i + 1)).text = numS q := hs1.hd.2.1
          have h7 : ¬ (7 : Int) < q := by omega
          simp only [setS, incS, hk3, ht3, num_set q (by omega) (by omega), if_neg h7]
          rfl
        · rw [if_neg hp] at hs ⊢
          have hs1 : Sees l (i + 1) [z] := hs.tl
          have hk3 : (tkg l (i + 1)).kind = z.1 := hs1.hd.1
          have : (z.1 == 3) = false := beq_false_of_ne h3
          obtain rfl : n0 = 0 := by omega
          simp only [setS, incS, hk3, this]
          rfl
      have h1 := Qkq hg (by show (2 : Int) ≠ 5; decide +kernel) h2
      exact ⟨q0_of_q1 hg (by rw [hT, hT]) h1, h1, h2⟩
    · simp only [Nd.mk.sizeOf_spec, List.cons.sizeOf_spec] at hm
      obtain ⟨x0, x1, x2⟩ := ih x (by omega) hx
      obtain ⟨y0, y1, y2⟩ := ih y (by omega) hy
      rcases hk with ⟨rfl, hsn⟩ | ⟨rfl, hsn⟩ | ⟨rfl, rfl⟩
      · have h0 : Q0 l (.mk 3 a0 s 0 [x, y]) := by
          intro n i a z hn hs hz
          rw [ex0] at hn hs ⊢
          by_cases h9 : s = ⟨#[95]⟩
          · rw [Qji _ _ _ _ _ _ rfl h9] at hn hs ⊢
            simp only [List.length_append, List.length_cons, List.length_nil] at hn ⊢
            obtain ⟨n', rfl⟩ : ∃ n', n = n' + 1 := ⟨n - 1, by omega⟩
            have s1 : Sees l i (exT x 1 ++ [(4, sArr)]) := Sees.pre (b := exT y 0 ++ [z]) (by simpa using hs)
            have s2 : Sees l (i + (exT x 1).length) ((4, sArr) :: (exT y 0 ++ [z])) := Sees.app (by simpa using hs)
            obtain ⟨x', m', e, -, hx'⟩ := x1 n' i a (4, sArr) (by omega) s1 (by decide +kernel) (by decide +kernel)
            rw [appL_stop (by rw [Qjo s2]; rw [show nB (4, sArr) = false by decide +kernel, show mB (4, sArr) sSet = false by decide +kernel, show mB (4, sArr) sPar = false by decide +kernel]; rfl)] at e
            obtain ⟨y', e2, hy'⟩ := y0 n' (i + (exT x 1).length + 1) a z (by omega) s2.tl hz
            refine ⟨.mk 3 x'.at ⟨#[95]⟩ 0 [x', y'], ?_, ?_⟩
            · obtain ⟨w, ts, e1, hb⟩ := Qgt _ x (Nat.le_refl _) hx 1 (by omega) (by omega)
              have hl : isS l ⟨i, a, 0⟩ 0 sLam = false := by
                have h2 := s1
                rw [e1] at h2
                rw [Qan (k := 0) h2]
                rcases hb with ⟨-, hb⟩ | rfl | rfl
                · unfold mB; rw [hb]; rfl
                · decide +kernel
                · decide +kernel
              have hnb := Qli hx (by omega) (by omega) (show mB (4, sArr) sCol = false by decide +kernel) s1 a 0
              rw [Qav, if_neg (by simp), hl, hnb]
              simp only [Bool.false_eq_true, if_false, e]
              rw [Qan (k := 0) (i := i + (exT x 1).length) s2, if_pos (by exact ⟨trivial, by decide +kernel⟩)]
              rw [show incS ⟨i + (exT x 1).length, a, 0⟩ = ⟨i + (exT x 1).length + 1, a, 0⟩ from rfl, e2]
              simp only
              congr 2
              omega
            · rw [h9]
              simp only [eNd, eNds, hx', hy']
          · rw [inT_pi _ _ _ _ _ _ rfl h9] at hn hs ⊢
            obtain ⟨n', rfl⟩ : ∃ n', n = n' + 1 := ⟨n - 1, by omega⟩
            obtain ⟨x', y', e, hx', hy'⟩ := typed_sees x0 y0 s n' i a 3 (tkg l i).at_ z (by omega) hs hz
            refine ⟨.mk 3 (tkg l i).at_ s 0 [x', y'], ?_, ?_⟩
            · have s0 : Sees l i ((4, sPar) :: (1, s) :: (4, sCol) :: (exT x 0 ++ ((4, sRap) :: (4, sArr) :: (exT y 0 ++ [z])))) := by
                have := hs
                unfold binT at this
                simpa using this
              rw [Qav, if_neg (by simp), Qan (k := 0) s0]
              rw [show mB (4, sPar) sLam = false by decide +kernel]
              have hb : Qdi l ⟨i, a, 0⟩ = true := by
                unfold Qdi
                show (isS l ⟨i, a, 0⟩ 0 sPar && (tkg l (i + 1)).kind == 1 && isS l ⟨i, a, 0⟩ 2 sCol) = true
                have h6 : Sees l (i + 2) ((4, sCol) :: (exT x 0 ++ ((4, sRap) :: (4, sArr) :: (exT y 0 ++ [z])))) := s0.tl.tl
                rw [Qan (k := 0) s0, s0.tl.hd.1, Qan h6, show mB (4, sPar) sPar = true by decide +kernel, show mB (4, sCol) sCol = true by decide +kernel]
                rfl
              rw [hb]
              simp only [Bool.false_eq_true, if_false, if_true]
              exact e
            · simp only [eNd, eNds, hx', hy']
        have h2 := q2_of_q0 (.inl rfl) h0
        exact ⟨h0, Qkq hg (by show (3 : Int) ≠ 5; decide +kernel) h2, h2⟩
      · have h0 : Q0 l (.mk 4 a0 s 0 [x, y]) := by
          intro n i a z hn hs hz
          rw [ex0] at hn hs ⊢
          rw [inT_lam _ _ _ _ _ _ rfl] at hn hs ⊢
          rw [List.length_cons] at hn ⊢
          obtain ⟨n', rfl⟩ : ∃ n', n = n' + 1 := ⟨n - 1, by omega⟩
          obtain ⟨x', y', e, hx', hy'⟩ := typed_sees x0 y0 s n' (i + 1) a 4 (tkg l i).at_ z (by omega) hs.tl hz
          refine ⟨.mk 4 (tkg l i).at_ s 0 [x', y'], ?_, ?_⟩
          · rw [Qav, if_neg (by simp), Qan (k := 0) hs]
            rw [show mB (4, sLam) sLam = true by decide +kernel]
            simp only [if_true]
            rw [show incS ⟨i, a, 0⟩ = ⟨i + 1, a, 0⟩ from rfl, e]
            congr 2
            omega
          · simp only [eNd, eNds, hx', hy']
        have h2 := q2_of_q0 (.inr (.inl rfl)) h0
        exact ⟨h0, Qkq hg (by show (4 : Int) ≠ 5; decide +kernel) h2, h2⟩
      · have h1 : Q1 l (.mk 5 a0 ⟨#[]⟩ 0 [x, y]) := by
          intro n i a z hn hs h3 _
          rw [ex1_5 rfl, Qiv _ _ _ _ _ _ rfl] at hn hs ⊢
          simp only [List.length_append] at hn ⊢
          obtain ⟨w, q, e1, hw⟩ := Qgt _ y (Nat.le_refl _) hy 2 (by omega) (by omega)
          have hyp := ex_pos hy 2
          have hxp := ex_pos hx 1
          have s1 : Sees l i (exT x 1 ++ [w]) := by
            refine Sees.pre (b := q ++ [z]) ?_
            rw [e1] at hs; simpa using hs
          have s2 : Sees l (i + (exT x 1).length) (exT y 2 ++ [z]) := Sees.app (by simpa using hs)
          obtain ⟨x', m', e, hm', hx'⟩ := x1 n i a w (by omega) s1 hw.three hw.col
          obtain ⟨m2, rfl⟩ : ∃ m2, m' = m2 + 1 := ⟨m' - 1, by omega⟩
          obtain ⟨y', e2, hy'⟩ := y2 m2 (i + (exT x 1).length) a z (by omega) s2 h3
          refine ⟨.mk 5 x'.at ⟨#[]⟩ 0 [x', y'], m2, ?_, by omega, by simp only [eNd, eNds, hx', hy']⟩
          rw [e, appL]
          have hbg : Qgc l ⟨i + (exT x 1).length, a, 0⟩ = true := by
            have hnb := Qli hy (lv := 2) (by omega) (by omega) (z := z) ‹_› s2 a 0
            rw [e1] at s2
            rw [Qjo s2, hnb]
            rcases hw with ⟨hw, -⟩ | rfl | rfl
            · rw [hw]; rfl
            · decide +kernel
            · decide +kernel
          rw [if_pos ⟨rfl, hbg⟩]
          simp only [e2]
          congr 2
          omega
        have h0 := q0_of_q1 hg (by rw [ex0, ex1_5 rfl]) h1
        exact ⟨h0, h1, q2_of_q0 (.inr (.inr rfl)) h0⟩
inductive Pc where
 | tok (k : Int) (x : ByteArray)
 | sp (b : UInt8)
 | bra
def Pc.bytes : Pc → List UInt8
 | .tok _ x => x.toList
 | .sp b => [b]
 | .bra => [123, 10]
def Pc.signs : Pc → List Int
 | .tok _ x => allS x
 | .sp b => [(b.toNat : Int)]
 | .bra => [123, 10]
def Pc.tk : Pc → List (Int × ByteArray)
 | .tok k x => [(k, x)]
 | .sp _ => []
 | .bra => [(4, sBra)]
def Pc.safe : Pc → Bool
 | .tok k _ => k == 4
 | .sp _ => true
 | .bra => true
def Qbp (l : List Pc) : List UInt8 := l.flatMap Pc.bytes
def Qbq (l : List Pc) : List Int := l.flatMap Pc.signs
def Qca (l : List Pc) : List (Int × ByteArray) := l.flatMap Pc.tk
theorem Qlp (p : Pc) (l : List Pc) : Qbp (p :: l) = p.bytes ++ Qbp l := rfl
theorem Qit (p : Pc) (l : List Pc) : Qca (p :: l) = p.tk ++ Qca l := rfl
theorem Qgo (p : Pc) (l : List Pc) : Qbq (p :: l) = p.signs ++ Qbq l := rfl
theorem Qge (a b : List Pc) : Qbp (a ++ b) = Qbp a ++ Qbp b := List.flatMap_append
theorem Qhe (a b : List Pc) : Qca (a ++ b) = Qca a ++ Qca b := List.flatMap_append
def okP : List Pc → Bool
 | p :: q :: r => (p.safe || q.safe) && okP (q :: r)
 | _ => true
theorem okP_tl {p : Pc} {l : List Pc} (h : okP (p :: l) = true) : okP l = true := by
 cases l with
 | nil => rfl
 | cons q r => simp only [okP, Bool.and_eq_true] at h; exact h.2
theorem Qdo {p : Pc} {l : List Pc} (hp : p.safe = true) (h : okP l = true) : okP (p :: l) = true := by
 cases l with
 | nil => rfl
 | cons q r => simp only [okP, hp, h]; rfl
theorem Qha {c : Pc} (hc : c.safe = true) : ∀ {a b : List Pc}, okP a = true → okP b = true → okP (a ++ c :: b) = true
  | [], b, _, hb => Qdo hc hb
  | [p], b, _, hb => by
    have := Qdo hc hb
    simp only [List.cons_append, List.nil_append, okP, hc, this, Bool.or_true, Bool.true_and]
  | p :: q :: r, b, ha, hb => by
    have h2 := Qha hc (a := q :: r) (b := b) (okP_tl ha) hb
    simp only [okP, Bool.and_eq_true] at ha
    simp only [List.cons_append] at h2 ⊢
    simp only [okP, ha.1, h2]; rfl
theorem okP_end {c : Pc} (hc : c.safe = true) {a : List Pc} (ha : okP a = true) : okP (a ++ [c]) = true := Qha hc ha (b := []) rfl
def markS (x : ByteArray) : Bool := x.toList == [40] || x.toList == [41] || x.toList == [58] || x.toList == [45, 62] || x.toList == [92] || x.toList == [46] || x.toList == [61] || x.toList == [59] || x.toList == [125]
def keyS (x : ByteArray) : Bool := x.toList == [83, 101, 116] || x.toList == [100, 97, 116, 97] || x.toList == [114, 101, 99, 111, 114, 100] || x.toList == [100, 101, 102]
def Pc.valid : Pc → Prop
 | .tok k x => (k = 1 ∧ (x = ⟨#[95]⟩ ∨ Qaj x = true)) ∨ (k = 2 ∧ keyS x = true) ∨ (k = 3 ∧ ∃ n : Nat, n < 8 ∧ 0 < n ∧ x = numS n) ∨ (k = 4 ∧ markS x = true)
 | .sp b => b = 32 ∨ b = 10
 | .bra => True
structure LexT (k : Int) (x : ByteArray) : Prop where
 ok : allE x = 0
 ne : allS x ≠ []
 skip : ∀ w, Qac (allS x ++ w) = (allS x ++ w, true)
 next : ∀ w, (k ≠ 4 → Qah (sgn w 0) = false) → Qai (allS x ++ w) = (k, x, (allS x).length, true)
theorem tw_stop2 {p : Int → Bool} {u w : List Int} (hu : u.all p = true) (hw : p (sgn w 0) = false) : (u ++ w).takeWhile p = u := by
  induction u with
  | nil =>
    cases w with
    | nil => rfl
    | cons a r => exact List.takeWhile_cons_of_neg (by rw [show p a = false from hw]; simp)
  | cons a r ih =>
    simp only [List.all_cons, Bool.and_eq_true] at hu
    rw [List.cons_append, List.takeWhile_cons_of_pos hu.1, ih hu.2]
theorem Qdd {x : ByteArray} {a : Array UInt8} (h : x.toList = a.toList) : x = ⟨a⟩ := toList_inj (by rw [h, ByteArray.toList_eq])
theorem Qhu {k : Int} {x : ByteArray} {a : Int} {r : List Int} (h0 : allE x = 0) (he : allS x = a :: r) (ha : (Qbo a || a == 95) = true) (hi : (allS x).all Qah = true) (hk : k = 2 ∧ kwB x = true ∨ k = 1 ∧ kwB x = false ∧ (x.toList == [95] || Qaj x) = true) : LexT k x := by
 obtain ⟨b1, b2, b3⟩ := letter_blank ha
 have hj := (Qel x h0).2
 refine ⟨h0, by rw [he]; simp, fun w => ?_, fun w hw => ?_⟩
 ·rw [he, List.cons_append]
  exact Qjv b1 (fun e => absurd e b2) (fun e => absurd e b3)
 ·have hw2 : Qah (sgn w 0) = false := hw (by rcases hk with ⟨rfl, -⟩ | ⟨rfl, -⟩ <;> decide)
  have ht := tw_stop2 hi hw2
  have e2 := next_word (r := r ++ w) ha
  rw [← List.cons_append, ← he, ht, hj] at e2
  rw [e2]
  rcases hk with ⟨rfl, h⟩ | ⟨rfl, h, h2⟩
  ·rw [h]; rfl
  ·rw [h, h2]; rfl
theorem kw_low : kwB ⟨#[95]⟩ = false := by decide +kernel
theorem lex_name {x : ByteArray} (h : x = ⟨#[95]⟩ ∨ Qaj x = true) : LexT 1 x := by
  rcases h with rfl | h
  · exact Qhu (by decide +kernel) (show allS ⟨#[95]⟩ = 95 :: [] by decide +kernel) (by decide) (by decide +kernel) (.inr ⟨rfl, kw_low, by decide +kernel⟩)
  · have hr := h
    unfold Qaj at h
    simp only [Bool.and_eq_true, beq_iff_eq, decide_eq_true_eq, Bool.not_eq_true'] at h
    obtain ⟨⟨⟨⟨h0, h1, -⟩, h2⟩, h3⟩, h4⟩ := h
    cases hx : allS x with
    | nil => exact absurd ((allS_len x h0).1 (by rw [hx]; rfl)) h1
    | cons a r =>
      rw [hx] at h4
      refine Qhu h0 hx ?_ h3 (.inr ⟨rfl, h2, by rw [hr, Bool.or_true]⟩)
      rw [Bool.or_eq_true] at h4 ⊢
      rcases h4 with h4 | h4
      · exact .inl h4
      · rw [Bool.and_eq_true] at h4; exact .inr h4.1
theorem lex_key {x : ByteArray} (h : keyS x = true) : LexT 2 x := by
 unfold keyS at h
 simp only [Bool.or_eq_true, beq_iff_eq] at h
 rcases h with ((h | h) | h) | h
 ·obtain rfl : x = ⟨#[83, 101, 116]⟩ := Qdd (a := #[83, 101, 116]) h
  exact Qhu (by decide +kernel) (show allS ⟨#[83, 101, 116]⟩ = 83 :: [101, 116] by decide +kernel) (by decide) (by decide +kernel) (.inl ⟨rfl, by decide +kernel⟩)
 ·obtain rfl : x = ⟨#[100, 97, 116, 97]⟩ := Qdd (a := #[100, 97, 116, 97]) h
  exact Qhu (by decide +kernel) (show allS ⟨#[100, 97, 116, 97]⟩ = 100 :: [97, 116, 97] by decide +kernel) (by decide) (by decide +kernel) (.inl ⟨rfl, by decide +kernel⟩)
 ·obtain rfl : x = ⟨#[114, 101, 99, 111, 114, 100]⟩ := Qdd (a := #[114, 101, 99, 111, 114, 100]) h
  exact Qhu (by decide +kernel) (show allS ⟨#[114, 101, 99, 111, 114, 100]⟩ = 114 :: [101, 99, 111, 114, 100] by decide +kernel) (by decide) (by decide +kernel) (.inl ⟨rfl, by decide +kernel⟩)
 ·obtain rfl : x = ⟨#[100, 101, 102]⟩ := Qdd (a := #[100, 101, 102]) h
  exact Qhu (by decide +kernel) (show allS ⟨#[100, 101, 102]⟩ = 100 :: [101, 102] by decide +kernel) (by decide) (by decide +kernel) (.inl ⟨rfl, by decide +kernel⟩)
theorem num_signs : ∀ n < 8, 0 < n → allE (numS (n : Nat)) = 0 ∧ allS (numS (n : Nat)) = [48 + (n : Int)] ∧ Qen (numS (n : Nat)) = true := by decide +kernel
theorem digit_one : ∀ n < 8, Qar (48 + ((n : Nat) : Int)) = true ∧ (Qbo (48 + ((n : Nat) : Int)) || (48 + ((n : Nat) : Int)) == 95) = false := by decide
theorem inner_digit {n : Int} (h : Qah n = false) : Qar n = false := by
 unfold Qah at h
 cases hd : Qar n with
 | false => rfl
 | true => rw [hd] at h; simp at h
theorem lex_num {n : Nat} (hn : n < 8) (h0 : 0 < n) : LexT 3 (numS n) := by
 obtain ⟨e1, e2, e3⟩ := num_signs n hn h0
 obtain ⟨d1, d2⟩ := digit_one n hn
 obtain ⟨b1, b2, b3⟩ := digit_blank d1
 have hj := (Qel _ e1).2
 rw [e2] at hj
 refine ⟨e1, by rw [e2]; simp, fun w => ?_, fun w hw => ?_⟩
 ·rw [e2]
  exact Qjv b1 (fun e => absurd e b2) (fun e => absurd e b3)
 ·have hw2 := hw (by decide)
  have ht : ([48 + (n : Int)] ++ w).takeWhile Qar = [48 + (n : Int)] := tw_stop2 (by simp [d1]) (inner_digit hw2)
  rw [e2]
  have e4 := next_digit (a := 48 + (n : Int)) (r := w) (by rw [d2]; simp) d1
  rw [show ((48 + (n : Int)) :: w).takeWhile Qar = [48 + (n : Int)] from ht, hj, e3] at e4
  show Qai ((48 + (n : Int)) :: w) = _
  rw [e4]
  have : Qah (sgn ((48 + (n : Int)) :: w) [48 + (n : Int)].length) = false := hw2
  rw [this]; rfl
theorem Qgy {n : Int} {x : ByteArray} (h0 : allE x = 0) (he : allS x = [n]) (hm : mk1B n = true) (hn : n ≠ 123) (hl : Qbo n = false) (hd : Qar n = false) (h95 : n ≠ 95) (h45 : n ≠ 45) (hb : Qec n = false) : LexT 4 x := by
 have hj := (Qel x h0).2
 have hjE := (Qel x h0).1
 refine ⟨h0, by rw [he]; simp, fun w => ?_, fun w _ => ?_⟩
 ·rw [he]
  exact Qjv hb (fun e => absurd e h45) (fun e => absurd e hn)
 ·rw [he]
  have e := next_mark (a := n) (r := w) (by rw [hl]; simpa using h95) (by rw [hd]; simp)
  show Qai (n :: w) = _
  rw [e]
  have hx : strOfNums [n] = x := by
   rw [he] at hj hjE
   unfold Qas at hj
   rw [if_pos hjE] at hj
   rw [← hj]
   have : n < 128 := by
    unfold mk1B at hm
    have := of_decide_eq_true hm
    omega
   show strOfNums [n] = strOfNums (encL n ++ [])
   rw [encL, if_pos this]; rfl
  unfold Qck
  rw [if_pos hm]
  simp only [hx]; rfl
theorem lex_mark {x : ByteArray} (h : markS x = true) : LexT 4 x := by
 unfold markS at h
 simp only [Bool.or_eq_true, beq_iff_eq] at h
 rcases h with (((((((h | h) | h) | h) | h) | h) | h) | h) | h
 ·obtain rfl : x = ⟨#[40]⟩ := Qdd (a := #[40]) h
  exact Qgy (n := 40) (by decide +kernel) (by decide +kernel) (by decide) (by decide) (by decide) (by decide) (by decide) (by decide) (by decide)
 ·obtain rfl : x = ⟨#[41]⟩ := Qdd (a := #[41]) h
  exact Qgy (n := 41) (by decide +kernel) (by decide +kernel) (by decide) (by decide) (by decide) (by decide) (by decide) (by decide) (by decide)
 ·obtain rfl : x = ⟨#[58]⟩ := Qdd (a := #[58]) h
  exact Qgy (n := 58) (by decide +kernel) (by decide +kernel) (by decide) (by decide) (by decide) (by decide) (by decide) (by decide) (by decide)
 ·obtain rfl : x = ⟨#[45, 62]⟩ := Qdd (a := #[45, 62]) h
  have e : allS ⟨#[45, 62]⟩ = [45, 62] := by decide +kernel
  refine ⟨by decide +kernel, by rw [e]; simp, fun w => ?_, fun w _ => ?_⟩
  ·rw [e]
   exact Qjv (by decide) (fun _ => by simp) (fun _ => by simp)
  ·rw [e]
   simp [Qai, sgn, Qbo, Qar, Qck, mk1B]
 ·obtain rfl : x = ⟨#[92]⟩ := Qdd (a := #[92]) h
  exact Qgy (n := 92) (by decide +kernel) (by decide +kernel) (by decide) (by decide) (by decide) (by decide) (by decide) (by decide) (by decide)
 ·obtain rfl : x = ⟨#[46]⟩ := Qdd (a := #[46]) h
  exact Qgy (n := 46) (by decide +kernel) (by decide +kernel) (by decide) (by decide) (by decide) (by decide) (by decide) (by decide) (by decide)
 ·obtain rfl : x = ⟨#[61]⟩ := Qdd (a := #[61]) h
  exact Qgy (n := 61) (by decide +kernel) (by decide +kernel) (by decide) (by decide) (by decide) (by decide) (by decide) (by decide) (by decide)
 ·obtain rfl : x = ⟨#[59]⟩ := Qdd (a := #[59]) h
  exact Qgy (n := 59) (by decide +kernel) (by decide +kernel) (by decide) (by decide) (by decide) (by decide) (by decide) (by decide) (by decide)
 ·obtain rfl : x = ⟨#[125]⟩ := Qdd (a := #[125]) h
  exact Qgy (n := 125) (by decide +kernel) (by decide +kernel) (by decide) (by decide) (by decide) (by decide) (by decide) (by decide) (by decide)
theorem lex_tok {k : Int} {x : ByteArray} (h : (Pc.tok k x).valid) : LexT k x := by
 rcases h with ⟨rfl, h⟩ | ⟨rfl, h⟩ | ⟨rfl, n, h1, h2, rfl⟩ | ⟨rfl, h⟩
 ·exact lex_name h
 ·exact lex_key h
 ·exact lex_num h1 h2
 ·exact lex_mark h
theorem mark_inner {x : ByteArray} (h : markS x = true) : ∃ a r, allS x = a :: r ∧ Qah a = false := by
 unfold markS at h
 simp only [Bool.or_eq_true, beq_iff_eq] at h
 rcases h with (((((((h | h) | h) | h) | h) | h) | h) | h) | h
 ·obtain rfl : x = ⟨#[40]⟩ := Qdd (a := #[40]) h; exact ⟨40, [], by decide +kernel, by decide⟩
 ·obtain rfl : x = ⟨#[41]⟩ := Qdd (a := #[41]) h; exact ⟨41, [], by decide +kernel, by decide⟩
 ·obtain rfl : x = ⟨#[58]⟩ := Qdd (a := #[58]) h; exact ⟨58, [], by decide +kernel, by decide⟩
 ·obtain rfl : x = ⟨#[45, 62]⟩ := Qdd (a := #[45, 62]) h; exact ⟨45, [62], by decide +kernel, by decide⟩
 ·obtain rfl : x = ⟨#[92]⟩ := Qdd (a := #[92]) h; exact ⟨92, [], by decide +kernel, by decide⟩
 ·obtain rfl : x = ⟨#[46]⟩ := Qdd (a := #[46]) h; exact ⟨46, [], by decide +kernel, by decide⟩
 ·obtain rfl : x = ⟨#[61]⟩ := Qdd (a := #[61]) h; exact ⟨61, [], by decide +kernel, by decide⟩
 ·obtain rfl : x = ⟨#[59]⟩ := Qdd (a := #[59]) h; exact ⟨59, [], by decide +kernel, by decide⟩
 ·obtain rfl : x = ⟨#[125]⟩ := Qdd (a := #[125]) h; exact ⟨125, [], by decide +kernel, by decide⟩
theorem safe_inner {p : Pc} (hv : p.valid) (hs : p.safe = true) (w : List Int) : Qah (sgn (p.signs ++ w) 0) = false := by
  cases p with
  | tok k x =>
    obtain rfl : k = 4 := beq_iff_eq.1 hs
    rcases hv with ⟨h, -⟩ | ⟨h, -⟩ | ⟨h, -⟩ | ⟨-, h⟩
    · cases h
    · cases h
    · cases h
    · obtain ⟨a, r, e, hi⟩ := mark_inner h
      show Qah (sgn (allS x ++ w) 0) = false
      rw [e]; exact hi
  | sp b =>
    rcases hv with rfl | rfl
    · show Qah (32 : Int) = false; decide
    · show Qah (10 : Int) = false; decide
  | bra => show Qah (123 : Int) = false; decide
theorem skip_sp {b : UInt8} (h : b = 32 ∨ b = 10) (w : List Int) : Qac ((b.toNat : Int) :: w) = Qac w := by
 rw [Qac, if_pos]
 rcases h with rfl | rfl <;> decide
theorem lexP : ∀ (ps : List Pc) (c : Nat), (∀ p ∈ ps, p.valid) → okP ps = true →
    (c + (Qca ps).length ≤ 8192 → (cutR c (Qbq ps)).2 = none ∧ (cutR c (Qbq ps)).1.map (fun t => (t.1, t.2.1)) = Qca ps)
    ∧ (c ≤ 8192 → 8192 < c + (Qca ps).length → (cutR c (Qbq ps)).2 ≠ none) := by
  intro ps
  induction ps with
  | nil =>
    intro c _ _
    have h1 : Qac (Qbq []) = ([], true) := by unfold Qbq; rw [List.flatMap_nil, Qac]
    rw [cut_b (by rw [h1]) (by rw [h1])]
    refine ⟨fun _ => ⟨rfl, rfl⟩, fun h1 h2 => ?_⟩
    have : (Qca []).length = 0 := rfl
    omega
  | cons p ps ih =>
    intro c hv ho
    have hvp := hv p List.mem_cons_self
    have IH := fun c => ih c (fun q hq => hv q (List.mem_cons_of_mem _ hq)) (okP_tl ho)
    cases p with
    | sp b =>
      rw [Qgo, Qit]
      rw [show (Pc.sp b).signs ++ Qbq ps = (b.toNat : Int) :: Qbq ps from rfl, cut_skip (skip_sp hvp _)]
      exact IH c
    | bra =>
      rw [Qgo, Qit]
      rw [show Pc.bra.signs ++ Qbq ps = 123 :: 10 :: Qbq ps from rfl]
      rw [show Pc.bra.tk ++ Qca ps = (4, sBra) :: Qca ps from rfl]
      have hs : Qac (123 :: 10 :: Qbq ps) = (123 :: 10 :: Qbq ps, true) := Qjv (by decide) (fun e => absurd e (by decide)) (fun _ => by simp)
      have hn : Qai (123 :: 10 :: Qbq ps) = (4, sBra, 1, true) := by
        have := next_mark (a := 123) (r := 10 :: Qbq ps) (by decide) (by decide)
        rw [this]
        unfold Qck
        rw [if_pos (by decide)]
        rfl
      by_cases hl : 8192 ≤ c
      · rw [cut_c (by rw [hs]) (by rw [hs]; simp) hl]
        simp only [List.length_cons]
        exact ⟨fun h => by omega, fun _ _ => by simp⟩
      · rw [cut_e (by rw [hs]) (by rw [hs]; simp) hl (by rw [hs]; rw [hn])]
        rw [hs, hn]
        simp only [List.drop_succ_cons, List.drop_zero, List.length_cons, List.map_cons]
        have hsk : Qac (10 :: Qbq ps) = Qac (Qbq ps) := skip_sp (b := 10) (.inr rfl) _
        rw [cut_skip hsk]
        obtain ⟨i1, i2⟩ := IH (c + 1)
        refine ⟨fun h => ?_, fun h1 h2 => i2 (by omega) (by omega)⟩
        obtain ⟨j1, j2⟩ := i1 (by omega)
        exact ⟨j1, by rw [j2]⟩
    | tok k x =>
      rw [Qgo, Qit]
      rw [show (Pc.tok k x).signs ++ Qbq ps = allS x ++ Qbq ps from rfl]
      rw [show (Pc.tok k x).tk ++ Qca ps = (k, x) :: Qca ps from rfl]
      have hL := lex_tok hvp
      have hs := hL.skip (Qbq ps)
      have hn := hL.next (Qbq ps) (by
        intro hk
        cases ps with
        | nil => show Qah (-1) = false; decide
        | cons q ps =>
          have hq : q.safe = true := by
            simp only [okP, Bool.and_eq_true, Bool.or_eq_true] at ho
            rcases ho.1 with h | h
            · exact absurd (beq_iff_eq.1 h) hk
            · exact h
          rw [Qgo]
          exact safe_inner (hv q (by simp)) hq _)
      have hne : allS x ++ Qbq ps ≠ [] := by
        have := hL.ne
        simp [this]
      by_cases hl : 8192 ≤ c
      · rw [cut_c (by rw [hs]) (by rw [hs]; exact hne) hl]
        simp only [List.length_cons]
        exact ⟨fun h => by omega, fun _ _ => by simp⟩
      · rw [cut_e (by rw [hs]) (by rw [hs]; exact hne) hl (by rw [hs]; rw [hn])]
        rw [hs, hn]
        simp only [List.drop_left, List.length_cons, List.map_cons]
        obtain ⟨i1, i2⟩ := IH (c + 1)
        refine ⟨fun h => ?_, fun h1 h2 => i2 (by omega) (by omega)⟩
        obtain ⟨j1, j2⟩ := i1 (by omega)
        exact ⟨j1, by rw [j2]⟩
theorem bytes_signs {x : ByteArray} (h : allE x = 0) : Qaz (allS x) = x.toList.map (fun b => ((b.toNat : Nat) : Int)) ∧ (allS x).all right = true := by
 obtain ⟨-, h2⟩ := signs_ok h
 refine ⟨?_, h2⟩
 have h1 := (sg_of h).bytes
 rw [Qki] at h1
 have h3 : ∀ c ∈ Qaz (allS x), 0 ≤ c := by
  intro c hc
  obtain ⟨n, hn, hcn⟩ := List.mem_flatMap.1 hc
  have hr := List.all_eq_true.1 h2 n hn
  rcases Qjc n hr with h | h | h | h
  ·rw [encL1 n h.2] at hcn; simp at hcn; omega
  ·rw [encL2 n h.1 h.2] at hcn; simp at hcn; omega
  ·rw [encL3 n h.1 h.2] at hcn; simp at hcn; omega
  ·rw [encL4 n h.1] at hcn; simp at hcn; omega
 have h4 : Qaz (allS x) = ((Qaz (allS x)).map Int.toNat).map (fun n : Nat => (n : Int)) := by
  rw [List.map_map]
  conv => lhs; rw [← List.map_id (Qaz (allS x))]
  exact List.map_congr_left fun c hc => (Int.toNat_of_nonneg (h3 c hc)).symm
 rw [h4, ← h1]
 unfold nats
 rw [ByteArray.toList_eq, List.map_map]; rfl
theorem piece_signs {p : Pc} (h : p.valid) : Qaz p.signs = p.bytes.map (fun b => ((b.toNat : Nat) : Int)) ∧ p.signs.all right = true := by
 cases p with
 | tok k x => exact bytes_signs (lex_tok h).ok
 | sp b => rcases h with rfl | rfl <;> decide
 | bra => decide
theorem Qll : ∀ {ps : List Pc}, (∀ p ∈ ps, p.valid) → Qaz (Qbq ps) = (Qbp ps).map (fun b => ((b.toNat : Nat) : Int)) ∧ (Qbq ps).all right = true
  | [], _ => ⟨rfl, rfl⟩
  | p :: ps, h => by
    obtain ⟨h1, h2⟩ := piece_signs (h p List.mem_cons_self)
    obtain ⟨h3, h4⟩ := Qll (ps := ps) fun q hq => h q (List.mem_cons_of_mem _ hq)
    rw [Qgo, Qlp, List.map_append, ← h1, ← h3, List.all_append, h2, h4]
    exact ⟨by unfold Qaz; rw [List.flatMap_append], rfl⟩
theorem lex_text {ps : List Pc} (hv : ∀ p ∈ ps, p.valid) (ho : okP ps = true) (hs : (Qbp ps).length ≤ 65535) :
    ((Qca ps).length ≤ 8192 → (tokA (strB (Qbp ps))).2.2 = 0 ∧ (tokA (strB (Qbp ps))).1.map kt = Qca ps ++ [(5, ⟨#[]⟩)])
    ∧ (8192 < (Qca ps).length → (tokA (strB (Qbp ps))).2.2 ≠ 0) := by
  obtain ⟨h1, h2⟩ := Qll hv
  have hj : Qee (Qbq ps) = 0 := by
    unfold Qee
    rw [if_pos h2, if_neg]
    rw [h1, List.length_map]; omega
  have hS : Qas (Qbq ps) = strB (Qbp ps) := by
    unfold Qas
    rw [if_pos hj, h1, Qls]; rfl
  obtain ⟨h3, h4⟩ := back_signs _ hj
  rw [hS] at h3 h4
  obtain ⟨i1, i2⟩ := lexP ps 0 hv ho
  have hT : tokA (strB (Qbp ps)) = Qgb (Qbq ps) (strB (Qbp ps)).size := by
    unfold tokA
    rw [if_neg (by rw [h3]; simp), h4]
  rw [hT]
  constructor
  · intro h
    obtain ⟨j1, j2⟩ := i1 (by omega)
    unfold Qgb
    rw [j1]
    refine ⟨rfl, ?_⟩
    rw [← j2, List.map_append, List.map_map]
    rfl
  · intro h
    have j := i2 (by omega) (by omega)
    unfold Qgb
    cases hc : (cutR 0 (Qbq ps)).2 with
    | none => exact absurd hc j
    | some e =>
      obtain ⟨e, k⟩ := e
      rcases cut_err 0 _ e k hc with rfl | rfl
      · show (1 : Int) ≠ 0; decide
      · show (2 : Int) ≠ 0; decide
def dotT : List Nd → List (Int × ByteArray)
 | [x] => exT x 2
 | _ => []
mutual
def patT : Nd → List (Int × ByteArray)
 | .mk k _ s _ sub => if k = 6 then [(1, s)] else if k = 7 then [(1, ⟨#[95]⟩)] else if k = 9 then [(4, sPar), (4, sRap)] else if k = 10 then (4, sDot) :: dotT sub else (4, sPar) :: (1, s) :: (Qaq sub ++ [(4, sRap)])
def Qaq : List Nd → List (Int × ByteArray)
 | [] => []
 | t :: ts => patT t ++ Qaq ts
end
theorem Qir {k a n : Int} {s : ByteArray} {sub : List Nd} (h : Qak (.mk k a s n sub) true = true) :
  n = 0 ∧ ((k = 6 ∧ sub = [] ∧ Qaj s = true) ∨ (k = 7 ∧ sub = [] ∧ s = ⟨#[]⟩) ∨ (k = 9 ∧ sub = [] ∧ s = ⟨#[]⟩) ∨ (k = 10 ∧ s = ⟨#[]⟩ ∧ ∃ x, sub = [x] ∧ Qak x false = true) ∨ (k = 8 ∧ Qaj s = true ∧ sub ≠ [] ∧ Qbi sub true = true)) := by
 have h0 := pat_cases h
 rw [Qcs] at h
 simp only [Bool.and_eq_true, decide_eq_true_eq, beq_iff_eq] at h
 obtain ⟨⟨⟨⟨⟨-, h2⟩, h3⟩, h4⟩, -⟩, -⟩ := h
 unfold Qch at h3
 unfold numB at h4
 unfold Qbs at h2
 rcases h0 with ⟨rfl, rfl⟩ | ⟨rfl, rfl⟩ | ⟨rfl, rfl⟩ | ⟨rfl, x, rfl, hx⟩ | ⟨rfl, hL⟩
 ·rw [if_neg (by decide)] at h4
  rw [if_pos (by decide)] at h3
  exact ⟨beq_iff_eq.1 h4, .inl ⟨rfl, rfl, h3⟩⟩
 ·rw [if_neg (by decide)] at h4
  rw [if_neg (by decide), if_neg (by decide)] at h3
  exact ⟨beq_iff_eq.1 h4, .inr (.inl ⟨rfl, rfl, Qgg h3⟩)⟩
 ·rw [if_neg (by decide)] at h4
  rw [if_neg (by decide), if_neg (by decide)] at h3
  exact ⟨beq_iff_eq.1 h4, .inr (.inr (.inl ⟨rfl, rfl, Qgg h3⟩))⟩
 ·rw [if_neg (by decide)] at h4
  rw [if_neg (by decide), if_neg (by decide)] at h3
  exact ⟨beq_iff_eq.1 h4, .inr (.inr (.inr (.inl ⟨rfl, Qgg h3, x, rfl, hx⟩)))⟩
 ·rw [if_neg (by decide)] at h4
  rw [if_pos (by decide)] at h3
  rw [if_pos rfl] at h2
  refine ⟨beq_iff_eq.1 h4, .inr (.inr (.inr (.inr ⟨rfl, h3, ?_, hL⟩)))⟩
  intro e
  rw [e] at h2
  exact absurd h2 (by decide)
theorem Sees.len {l : List Tk} {i : Nat} {ts : List (Int × ByteArray)} (h : Sees l i ts) (hn : 0 < ts.length) : i + ts.length ≤ l.length := by
 obtain ⟨r, h⟩ := h
 have := congrArg List.length h
 rw [List.length_map, List.length_drop, List.length_append] at this
 omega
theorem Qko {l : List Tk} {i : Nat} {x : Int × ByteArray} {b : List (Int × ByteArray)} (h : Sees l i (x :: b)) (a e : Int) : Qdv l ⟨i, a, e⟩ = (x.1 == 1 || mB x sDot || mB x sPar) := by
 unfold Qdv
 rw [Qan (k := 0) h, Qan (k := 0) h]
 show ((tkg l i).kind == 1 || _ || _) = _
 rw [h.hd.1]
theorem Qih {t : Nd} (hg : Qak t true = true) : ∃ x ts, patT t = x :: ts ∧ (x.1 == 1 || mB x sDot || mB x sPar) = true ∧ x.1 ≠ 3 := by
 obtain ⟨k, a, s, n, sub⟩ := t
 obtain ⟨-, h⟩ := Qir hg
 rcases h with ⟨rfl, rfl, -⟩ | ⟨rfl, rfl, -⟩ | ⟨rfl, rfl, -⟩ | ⟨rfl, -, x, rfl, -⟩ | ⟨rfl, -, -, -⟩
 ·exact ⟨(1, s), [], by simp [patT], rfl, by show (1 : Int) ≠ 3; decide⟩
 ·exact ⟨(1, ⟨#[95]⟩), [], by simp [patT], rfl, by decide⟩
 ·exact ⟨(4, sPar), [(4, sRap)], by simp [patT], by decide +kernel, by decide⟩
 ·exact ⟨(4, sDot), exT x 2, by simp [patT, dotT], by decide +kernel, by decide⟩
 ·exact ⟨(4, sPar), (1, s) :: (Qaq sub ++ [(4, sRap)]), by simp [patT], by decide +kernel, by decide⟩
def QP (l : List Tk) (t : Nd) : Prop := ∀ n i a z, 6 * (patT t).length + 3 ≤ n → Sees l i (patT t ++ [z]) → z.1 ≠ 3 → ∃ t', patS l n ⟨i, a, 0⟩ = (t', ⟨i + (patT t).length, a, 0⟩) ∧ eNd t' = eNd t
theorem parL_read {l : List Tk} : ∀ (ts : List Nd), (∀ t ∈ ts, Qak t true = true) → (∀ t ∈ ts, QP l t) → ∀ n at_ g i a, 6 * (Qaq ts).length + 4 ≤ n → Sees l i (Qaq ts ++ [(4, sRap)]) →
    ∃ ts', parL l n at_ g ⟨i, a, 0⟩ = (if ts = [] then g else .mk 8 at_ g.name g.num (g.sub ++ ts'), ⟨i + (Qaq ts).length, a, 0⟩) ∧ eNds ts' = eNds ts := by
  intro ts
  induction ts with
  | nil =>
    intro _ _ n at_ g i a hn hs
    refine ⟨[], ?_, rfl⟩
    obtain ⟨n', rfl⟩ : ∃ n', n = n' + 1 := ⟨n - 1, by omega⟩
    have h : Qdv l ⟨i, a, 0⟩ = false := by
      rw [Qko (x := (4, sRap)) (b := []) hs]; decide +kernel
    rw [parL, if_neg (by rw [h]; simp)]
    rfl
  | cons t ts ih =>
    intro hg hq n at_ g i a hn hs
    have hgt := hg t List.mem_cons_self
    obtain ⟨x, xs, e1, hb, -⟩ := Qih hgt
    have hlen : (Qaq (t :: ts)).length = (patT t).length + (Qaq ts).length := by simp only [Qaq, List.length_append]
    have hpos : 1 ≤ (patT t).length := by rw [e1]; simp
    rw [hlen] at hn ⊢
    simp only [Qaq, List.append_assoc] at hs
    obtain ⟨n', rfl⟩ : ∃ n', n = n' + 1 := ⟨n - 1, by omega⟩
    have hnx : ∃ z q, Qaq ts ++ [(4, sRap)] = z :: q ∧ z.1 ≠ 3 := by
      cases ts with
      | nil => exact ⟨_, _, rfl, by decide⟩
      | cons t2 ts =>
        obtain ⟨y, ys, e2, -, h3⟩ := Qih (hg t2 (by simp))
        simp only [Qaq, e2]
        exact ⟨y, _, rfl, h3⟩
    obtain ⟨z, q, e2, hz⟩ := hnx
    have s1 : Sees l i (patT t ++ [z]) := by
      refine Sees.pre (b := q) ?_
      rw [e2] at hs; simpa using hs
    have s2 : Sees l (i + (patT t).length) (Qaq ts ++ [(4, sRap)]) := hs.app
    obtain ⟨t', e3, ht⟩ := hq t List.mem_cons_self n' i a z (by omega) s1 hz
    obtain ⟨ts', e4, hts⟩ := ih (fun x hx => hg x (List.mem_cons_of_mem _ hx)) (fun x hx => hq x (List.mem_cons_of_mem _ hx)) n' at_ (.mk 8 at_ g.name g.num (g.sub ++ [t'])) (i + (patT t).length) a (by omega) s2
    refine ⟨t' :: ts', ?_, by simp only [eNds, ht, hts]⟩
    have hp : Qdv l ⟨i, a, 0⟩ = true := by
      rw [e1] at s1
      rw [Qko s1]; exact hb
    rw [parL, if_pos ⟨rfl, hp⟩]
    simp only [e3, e4]
    rw [if_neg (List.cons_ne_nil _ _)]
    have hpos2 : i + (patT t).length + (Qaq ts).length = i + ((patT t).length + (Qaq ts).length) := by omega
    rw [hpos2]
    by_cases hts0 : ts = []
    · rw [if_pos hts0]
      subst hts0
      have : ts' = [] := by
        cases ts' with
        | nil => rfl
        | cons _ _ => simp only [eNds] at hts; cases hts
      rw [this]
    · rw [if_neg hts0]
      simp only [Nd.name, Nd.num, Nd.sub, List.append_assoc, List.cons_append, List.nil_append]
theorem pat_read (l : List Tk) : ∀ (m : Nat) (t : Nd), SizeOf.sizeOf t ≤ m → Qak t true = true → QP l t := by
  intro m
  induction m with
  | zero => intro t h; cases t; simp at h
  | succ m ih =>
    intro t hm hg n i a z hn hs h3
    obtain ⟨k, a0, s, n0, sub⟩ := t
    obtain ⟨rfl, h⟩ := Qir hg
    obtain ⟨n', rfl⟩ : ∃ n', n = n' + 1 := ⟨n - 1, by omega⟩
    rcases h with ⟨rfl, rfl, hr⟩ | ⟨rfl, rfl, rfl⟩ | ⟨rfl, rfl, rfl⟩ | ⟨rfl, rfl, x, rfl, hx⟩ | ⟨rfl, hr, hne, hL⟩
    · have hT : patT (.mk 6 a0 s 0 []) = [(1, s)] := by simp [patT]
      rw [hT] at hn hs ⊢
      refine ⟨.mk 6 (tkg l i).at_ s 0 [], ?_, rfl⟩
      rw [patS]
      simp only
      rw [if_neg (by simp), Qan (k := 0) hs, Qan (k := 0) hs, show mB (1, s) sPar = false from rfl, show mB (1, s) sDot = false from rfl]
      simp only [Bool.false_eq_true, if_false]
      have hk : (tkg l i).kind = 1 := hs.hd.1
      have ht : (tkg l i).text = s := hs.hd.2.1
      rw [if_neg (by rw [hk, ht, Qgu hr]; simp), Qif hs (by unfold nB; rw [Qgu hr]; rfl)]
      rfl
    · have hT : patT (.mk 7 a0 ⟨#[]⟩ 0 []) = [(1, ⟨#[95]⟩)] := by simp [patT]
      rw [hT] at hn hs ⊢
      refine ⟨.mk 7 (tkg l i).at_ ⟨#[]⟩ 0 [], ?_, rfl⟩
      rw [patS]
      simp only
      rw [if_neg (by simp), Qan (k := 0) hs, Qan (k := 0) hs, show mB (1, (⟨#[95]⟩ : ByteArray)) sPar = false from rfl, show mB (1, (⟨#[95]⟩ : ByteArray)) sDot = false from rfl]
      simp only [Bool.false_eq_true, if_false]
      have hk : (tkg l i).kind = 1 := hs.hd.1
      have ht : (tkg l i).text = ⟨#[95]⟩ := hs.hd.2.1
      rw [if_pos (by rw [hk, ht]; decide +kernel)]
      rfl
    · have hT : patT (.mk 9 a0 ⟨#[]⟩ 0 []) = [(4, sPar), (4, sRap)] := by simp [patT]
      rw [hT] at hn hs ⊢
      simp only [List.length_cons, List.length_nil] at hn
      obtain ⟨n2, rfl⟩ : ∃ n2, n' = n2 + 1 := ⟨n' - 1, by omega⟩
      refine ⟨.mk 9 (tkg l i).at_ ⟨#[]⟩ 0 [], ?_, rfl⟩
      rw [patS]
      simp only
      have hs0 : Sees l i ((4, sPar) :: (4, sRap) :: [z]) := hs
      rw [if_neg (by simp), Qan (k := 0) hs0, show mB (4, sPar) sPar = true by decide +kernel]
      simp only [if_true]
      have h1 : isS l ⟨i + 1, a, 0⟩ 0 sRap = true := by rw [Qan (k := 0) hs0.tl]; decide +kernel
      simp only [Qdp, incS, h1, if_true]
      rfl
    · have hT : patT (.mk 10 a0 ⟨#[]⟩ 0 [x]) = (4, sDot) :: exT x 2 := by simp [patT, dotT]
      rw [hT] at hn hs ⊢
      have hs0 : Sees l i ((4, sDot) :: (exT x 2 ++ [z])) := hs
      have hle := hs0.len (by simp)
      simp only [List.length_cons, List.length_append, List.length_nil] at hle hn ⊢
      obtain ⟨-, -, q2⟩ := expr_read l _ x (Nat.le_refl _) hx
      obtain ⟨x', e, hx'⟩ := q2 (Qes l) (i + 1) a z (by unfold Qes; omega) hs0.tl h3
      refine ⟨.mk 10 (tkg l i).at_ ⟨#[]⟩ 0 [x'], ?_, by simp only [eNd, eNds, hx']⟩
      rw [patS]
      simp only
      rw [if_neg (by simp), Qan (k := 0) hs0, Qan (k := 0) hs0, show mB (4, sDot) sPar = false by decide +kernel, show mB (4, sDot) sDot = true by decide +kernel]
      simp only [Bool.false_eq_true, if_false, if_true]
      rw [show incS ⟨i, a, 0⟩ = ⟨i + 1, a, 0⟩ from rfl, e, show i + 1 + (exT x 2).length = i + ((exT x 2).length + 1) by omega]
    · have hT : patT (.mk 8 a0 s 0 sub) = (4, sPar) :: (1, s) :: (Qaq sub ++ [(4, sRap)]) := by simp [patT]
      rw [hT] at hn hs ⊢
      have hs0 : Sees l i ((4, sPar) :: (1, s) :: (Qaq sub ++ [(4, sRap)] ++ [z])) := hs
      simp only [List.length_cons, List.length_append, List.length_nil] at hn ⊢
      obtain ⟨n2, rfl⟩ : ∃ n2, n' = n2 + 1 := ⟨n' - 1, by omega⟩
      have s2 : Sees l (i + 2) (Qaq sub ++ [(4, sRap)]) := hs0.tl.tl.pre
      simp only [Nd.mk.sizeOf_spec] at hm
      obtain ⟨ts', e, hts⟩ := parL_read (l := l) sub (fun t ht => Qid hL t ht) (fun t ht => ih t (by have := List.sizeOf_lt_of_mem ht; omega) (Qid hL t ht)) n2 (tkg l i).at_ (.mk 6 (tkg l (i + 1)).at_ s 0 []) (i + 2) a (by omega) s2
      rw [if_neg hne] at e
      refine ⟨.mk 8 (tkg l i).at_ s 0 ts', ?_, by simp only [eNd, hts]⟩
      rw [patS]
      simp only
      rw [if_neg (by simp), Qan (k := 0) hs0, show mB (4, sPar) sPar = true by decide +kernel]
      simp only [if_true]
      have hnb : nB (1, s) = true := by unfold nB; rw [Qgu hr]; rfl
      have h1 : isS l ⟨i + 1, a, 0⟩ 0 sRap = false := by rw [Qan (k := 0) hs0.tl]; rfl
      have h2 : Qcy l ⟨i + 1, a, 0⟩ 0 = true := by rw [Qkk hs0.tl]; exact hnb
      simp only [Qdp, show incS ⟨i, a, 0⟩ = ⟨i + 1, a, 0⟩ from rfl, h1, h2, Qif hs0.tl hnb, Bool.not_true, Bool.false_eq_true, if_false]
      rw [show i + 1 + 1 = i + 2 from rfl, e]
      simp only [Nd.name, Nd.num, Nd.sub, List.nil_append]
      rw [Qbr s2.app (by decide +kernel)]
      congr 2
      omega
theorem checked_ok {x : Nd} (h : Qcn x ≤ 128) (b : Int) (σ : ST) : Qcc x b σ = σ := by
 unfold Qcc
 rw [if_neg (by omega)]
theorem depth_of {a b : Nd} (h : eNd a = eNd b) (hb : Qcn b ≤ 128) : Qcn a ≤ 128 := by rw [← depth_e a, h, depth_e]; exact hb
theorem pats_read {l : List Tk} : ∀ (ts : List Nd), (∀ t ∈ ts, patB t = true) → ∀ n acc i a z, ts.length < n → acc.length + ts.length ≤ 24 → Sees l i (Qaq ts ++ [z]) → z.1 ≠ 3 → (z.1 == 1 || mB z sDot || mB z sPar) = false →
    ∃ ts', Qcr l n acc ⟨i, a, 0⟩ = (acc ++ ts', ⟨i + (Qaq ts).length, a, 0⟩) ∧ eNds ts' = eNds ts := by
  intro ts
  induction ts with
  | nil =>
    intro _ n acc i a z hn hl hs hz hz2
    obtain ⟨n', rfl⟩ : ∃ n', n = n' + 1 := ⟨n - 1, by simp at hn; omega⟩
    refine ⟨[], ?_, rfl⟩
    have h : Qdv l ⟨i, a, 0⟩ = false := by
      rw [Qko (x := z) (b := []) hs]; exact hz2
    rw [Qcr, if_neg (by rw [h]; simp), List.append_nil]
    rfl
  | cons t ts ih =>
    intro hg n acc i a z hn hl hs hz hz2
    have hgt := Qhb (hg t List.mem_cons_self)
    obtain ⟨x, xs, e1, hb, -⟩ := Qih hgt
    obtain ⟨n', rfl⟩ : ∃ n', n = n' + 1 := ⟨n - 1, by simp at hn; omega⟩
    simp only [List.length_cons] at hn hl
    simp only [Qaq, List.append_assoc] at hs
    have hnx : ∃ z2 q, Qaq ts ++ [z] = z2 :: q ∧ z2.1 ≠ 3 := by
      cases ts with
      | nil => exact ⟨_, _, rfl, hz⟩
      | cons t2 ts =>
        obtain ⟨y, ys, e2, -, h3⟩ := Qih (Qhb (hg t2 (by simp)))
        simp only [Qaq, e2]
        exact ⟨y, _, rfl, h3⟩
    obtain ⟨z2, q, e2, hz3⟩ := hnx
    have s1 : Sees l i (patT t ++ [z2]) := by
      refine Sees.pre (b := q) ?_
      rw [e2] at hs; simpa using hs
    have s2 : Sees l (i + (patT t).length) (Qaq ts ++ [z]) := hs.app
    have hle := s1.len (by simp)
    rw [List.length_append, List.length_cons, List.length_nil] at hle
    obtain ⟨t', e3, ht⟩ := pat_read l _ t (Nat.le_refl _) hgt (patF l) i a z2 (by unfold patF; omega) s1 hz3
    have hdt : Qcn t' ≤ 128 := depth_of ht (by
      have := patB_small (hg t List.mem_cons_self)
      unfold Qey at this
      exact of_decide_eq_true this)
    obtain ⟨ts', e4, hts⟩ := ih (fun x hx => hg x (List.mem_cons_of_mem _ hx)) n' (acc ++ [t']) (i + (patT t).length) a z (by omega) (by simp; omega) s2 hz hz2
    refine ⟨t' :: ts', ?_, by simp only [eNds, ht, hts]⟩
    have hp : Qdv l ⟨i, a, 0⟩ = true := by
      rw [e1] at s1
      rw [Qko s1]; exact hb
    rw [Qcr, if_pos ⟨rfl, hp⟩, if_neg (by omega)]
    simp only [e3, checked_ok hdt, e4, Qaq, List.length_append, List.append_assoc, List.cons_append, List.nil_append, Nat.add_assoc]
def bdT (b : Bd) : List (Int × ByteArray) := (1, b.name) :: (4, sCol) :: exT b.ty 0
def Qcf : List Bd → List (Int × ByteArray)
 | [] => []
 | b :: bs => (4, sPar) :: (bdT b ++ (4, sRap) :: Qcf bs)
def Qdk : List Bd → List (Int × ByteArray)
 | [] => []
 | b :: bs => bdT b ++ (4, sSem) :: Qdk bs
def bodyT (r : Rw) : List (Int × ByteArray) := if r.has then (4, sEq) :: exT r.body 0 else []
def rowT (r : Rw) : List (Int × ByteArray) := Qaq r.pats ++ (bodyT r ++ [(4, sSem)])
def Qeg : List Rw → List (Int × ByteArray)
 | [] => []
 | r :: rs => rowT r ++ Qeg rs
def kwT (k : Int) : Int × ByteArray := (2, if k = 1 then sData else if k = 2 then sRec else sDef)
def Qfm (d : Dc) : List (Int × ByteArray) := kwT d.kind :: (1, d.name) :: (Qcf d.tele ++ (4, sCol) :: (exT d.ty 0 ++ (4, sBra) :: (Qdk d.cons ++ (Qeg d.rows ++ [(4, sKet)]))))
theorem cl_sem : Cl (4, sSem) := ⟨by decide, by decide +kernel, by decide +kernel, by decide +kernel, by decide +kernel, by decide +kernel⟩
theorem cl_bra : Cl (4, sBra) := ⟨by decide, by decide +kernel, by decide +kernel, by decide +kernel, by decide +kernel, by decide +kernel⟩
theorem expr_top {l : List Tk} {t : Nd} (h : Qby t = true) {i : Nat} {a : Int} {z : Int × ByteArray} {r : List (Int × ByteArray)} (hs : Sees l i (exT t 0 ++ z :: r)) (hz : Cl z) : ∃ t', Qbg l (Qbf l) ⟨i, a, 0⟩ = (t', ⟨i + (exT t 0).length, a, 0⟩) ∧ eNd t' = eNd t := by
 have hg := Qfc h
 have hs1 : Sees l i (exT t 0 ++ [z]) := Sees.pre (b := r) (by simpa using hs)
 have hle := hs1.len (by simp)
 rw [List.length_append, List.length_cons, List.length_nil] at hle
 obtain ⟨q0, -, -⟩ := expr_read l _ t (Nat.le_refl _) hg
 obtain ⟨t', e, ht⟩ := q0 (Qbf l) i a z (by unfold Qbf; omega) hs1 hz
 refine ⟨t', ?_, ht⟩
 have hd : Qcn t' ≤ 128 := depth_of ht (by
  unfold Qby Qey at h
  simp only [Bool.and_eq_true, decide_eq_true_eq] at h
  exact h.1)
 unfold Qbg
 rw [e]
 simp only [checked_ok hd]
theorem bd_read {l : List Tk} {b : Bd} (h : Qcp b = true) {i : Nat} {a : Int} {z : Int × ByteArray} {r : List (Int × ByteArray)} (hs : Sees l i (bdT b ++ z :: r)) (hz : Cl z) : ∃ b', conS l ⟨i, a, 0⟩ = (b', ⟨i + (bdT b).length, a, 0⟩) ∧ eBd b' = eBd b := by
 unfold Qcp at h
 rw [Bool.and_eq_true] at h
 have hnb : nB (1, b.name) = true := by unfold nB; rw [Qgu h.1]; rfl
 have s0 : Sees l i ((1, b.name) :: (4, sCol) :: (exT b.ty 0 ++ z :: r)) := hs
 have s2 : Sees l (i + 2) (exT b.ty 0 ++ z :: r) := s0.tl.tl
 obtain ⟨t', e, ht⟩ := expr_top (a := a) h.2 s2 hz
 refine ⟨⟨b.name, (tkg l i).at_, t'⟩, ?_, ?_⟩
 ·unfold conS
  simp only [Qif s0 hnb, Qbr s0.tl (show mB (4, sCol) sCol = true by decide +kernel)]
  rw [show i + 1 + 1 = i + 2 from rfl, e]
  simp only [bdT, List.length_cons]
  congr 2
  omega
 ·simp only [eBd, ht]
theorem teles_read {l : List Tk} : ∀ (bs : List Bd), (∀ b ∈ bs, Qcp b = true) → ∀ n acc i a z r, bs.length < n → acc.length + bs.length ≤ 24 → Sees l i (Qcf bs ++ z :: r) → mB z sPar = false →
    ∃ bs', Qdc l 24 (Qex l) (Qgd l) n acc ⟨i, a, 0⟩ = (acc ++ bs', ⟨i + (Qcf bs).length, a, 0⟩) ∧ bs'.map eBd = bs.map eBd := by
  intro bs
  induction bs with
  | nil =>
    intro _ n acc i a z r hn _ hs hz
    obtain ⟨n', rfl⟩ : ∃ n', n = n' + 1 := ⟨n - 1, by simp at hn; omega⟩
    refine ⟨[], ?_, rfl⟩
    have h : Qex l ⟨i, a, 0⟩ = false := by
      unfold Qex
      rw [Qan (k := 0) (x := z) (b := r) hs, hz]
    rw [Qdc, if_neg (by rw [h]; simp), List.append_nil]
    rfl
  | cons b bs ih =>
    intro hg n acc i a z r hn hl hs hz
    obtain ⟨n', rfl⟩ : ∃ n', n = n' + 1 := ⟨n - 1, by simp at hn; omega⟩
    simp only [List.length_cons] at hn hl
    have s0 : Sees l i ((4, sPar) :: (bdT b ++ (4, sRap) :: (Qcf bs ++ z :: r))) := by simpa [Qcf] using hs
    obtain ⟨b', e, hb⟩ := bd_read (a := a) (hg b List.mem_cons_self) s0.tl cl_rap
    have s1 : Sees l (i + 1 + (bdT b).length) ((4, sRap) :: (Qcf bs ++ z :: r)) := s0.tl.app
    obtain ⟨bs', e2, hbs⟩ := ih (fun x hx => hg x (List.mem_cons_of_mem _ hx)) n' (acc ++ [b']) (i + 1 + (bdT b).length + 1) a z r (by omega) (by simp; omega) s1.tl hz
    refine ⟨b' :: bs', ?_, by simp only [List.map_cons, hb, hbs]⟩
    have h : Qex l ⟨i, a, 0⟩ = true := by
      unfold Qex
      rw [Qan (k := 0) s0]; decide +kernel
    have hB : Qgd l ⟨i, a, 0⟩ = (b', ⟨i + 1 + (bdT b).length + 1, a, 0⟩) := by
      unfold Qgd
      rw [Qbr s0 (by decide +kernel), e]
      simp only [Qbr s1 (show mB (4, sRap) sRap = true by decide +kernel)]
    rw [Qdc, if_pos ⟨rfl, h⟩, if_neg (by omega)]
    simp only [hB, e2, List.append_assoc, List.cons_append, List.nil_append, Qcf, List.length_cons, List.length_append]
    congr 2
    omega
theorem conss_read {l : List Tk} : ∀ (bs : List Bd), (∀ b ∈ bs, Qcp b = true) → ∀ n acc i a r, bs.length < n → acc.length + bs.length ≤ 16 → Sees l i (Qdk bs ++ (4, sKet) :: r) →
    ∃ bs', Qdc l 16 (Qeo l) (Qgi l) n acc ⟨i, a, 0⟩ = (acc ++ bs', ⟨i + (Qdk bs).length, a, 0⟩) ∧ bs'.map eBd = bs.map eBd := by
  intro bs
  induction bs with
  | nil =>
    intro _ n acc i a r hn _ hs
    obtain ⟨n', rfl⟩ : ∃ n', n = n' + 1 := ⟨n - 1, by simp at hn; omega⟩
    refine ⟨[], ?_, rfl⟩
    have h : Qeo l ⟨i, a, 0⟩ = false := by
      unfold Qeo
      rw [Qan (k := 0) (x := (4, sKet)) (b := r) hs]; decide +kernel
    rw [Qdc, if_neg (by rw [h]; simp), List.append_nil]
    rfl
  | cons b bs ih =>
    intro hg n acc i a r hn hl hs
    obtain ⟨n', rfl⟩ : ∃ n', n = n' + 1 := ⟨n - 1, by simp at hn; omega⟩
    simp only [List.length_cons] at hn hl
    have s0 : Sees l i (bdT b ++ (4, sSem) :: (Qdk bs ++ (4, sKet) :: r)) := by simpa [Qdk] using hs
    obtain ⟨b', e, hb⟩ := bd_read (a := a) (hg b List.mem_cons_self) s0 cl_sem
    have s1 : Sees l (i + (bdT b).length) ((4, sSem) :: (Qdk bs ++ (4, sKet) :: r)) := s0.app
    obtain ⟨bs', e2, hbs⟩ := ih (fun x hx => hg x (List.mem_cons_of_mem _ hx)) n' (acc ++ [b']) (i + (bdT b).length + 1) a r (by omega) (by simp; omega) s1.tl
    refine ⟨b' :: bs', ?_, by simp only [List.map_cons, hb, hbs]⟩
    have h : Qeo l ⟨i, a, 0⟩ = true := by
      unfold Qeo
      have s9 : Sees l i ((1, b.name) :: ((4, sCol) :: (exT b.ty 0 ++ (4, sSem) :: (Qdk bs ++ (4, sKet) :: r)))) := by simpa [bdT] using s0
      rw [Qan (k := 0) s9]; rfl
    have hB : Qgi l ⟨i, a, 0⟩ = (b', ⟨i + (bdT b).length + 1, a, 0⟩) := by
      unfold Qgi
      rw [e]
      simp only [Qbr s1 (show mB (4, sSem) sSem = true by decide +kernel)]
    rw [Qdc, if_pos ⟨rfl, h⟩, if_neg (by omega)]
    simp only [hB, e2, List.append_assoc, List.cons_append, List.nil_append, Qdk, List.length_cons, List.length_append]
    congr 2
    omega
theorem pats_len2 : ∀ ts : List Nd, (∀ t ∈ ts, Qak t true = true) → ts.length ≤ (Qaq ts).length := by
  intro ts
  induction ts with
  | nil => intro _; exact Nat.zero_le _
  | cons t ts ih =>
    intro h
    obtain ⟨x, xs, e, -⟩ := Qih (h t List.mem_cons_self)
    have := ih fun y hy => h y (List.mem_cons_of_mem _ hy)
    simp only [Qaq, List.length_append, List.length_cons, e]
    omega
theorem zero_e {t : Nd} (h : zeroB t = true) : eNd zNd = eNd t := by
 obtain ⟨k, a, s, n, sub⟩ := t
 unfold zeroB at h
 simp only [Nd.kind, Nd.at, Nd.name, Nd.num, Nd.sub, Bool.and_eq_true, beq_iff_eq] at h
 obtain ⟨⟨⟨⟨rfl, rfl⟩, h3⟩, rfl⟩, h5⟩ := h
 have h6 : sub = [] := List.eq_nil_of_length_eq_zero (by omega)
 subst h6
 rw [Qgg h3]
 rfl
theorem row_read {l : List Tk} {w : Rw} (h : rowB w = true) {i : Nat} {a : Int} {r : List (Int × ByteArray)} (hs : Sees l i (rowT w ++ r)) : ∃ w', rowS l ⟨i, a, 0⟩ = (w', ⟨i + (rowT w).length, a, 0⟩) ∧ eRw w' = eRw w := by
  obtain ⟨at0, pats, has, body⟩ := w
  unfold rowB at h
  simp only [Bool.and_eq_true, decide_eq_true_eq] at h
  obtain ⟨⟨hlen, hpats⟩, hbody⟩ := h
  have hp : ∀ t ∈ pats, patB t = true := fun t ht => List.all_eq_true.1 hpats t ht
  have hpl := pats_len2 pats fun t ht => Qhb (hp t ht)
  have s0 : Sees l i (Qaq pats ++ ((bodyT ⟨at0, pats, has, body⟩ ++ [(4, sSem)]) ++ r)) := by simpa [rowT] using hs
  cases has with
  | true =>
    simp only [if_true] at hbody
    have s1 : Sees l i (Qaq pats ++ (4, sEq) :: (exT body 0 ++ (4, sSem) :: r)) := by simpa [bodyT] using s0
    have hle := s1.len (by simp; omega)
    simp only [List.length_append, List.length_cons] at hle
    obtain ⟨ps', e, hps⟩ := pats_read pats hp (l.length + 1) [] i a (4, sEq) (by omega) (by simp; omega) (Sees.pre (b := exT body 0 ++ (4, sSem) :: r) (by simpa using s1)) (by decide) (by decide +kernel)
    have s2 : Sees l (i + (Qaq pats).length) ((4, sEq) :: (exT body 0 ++ (4, sSem) :: r)) := s1.app
    obtain ⟨b', e2, hb⟩ := expr_top (a := a) hbody s2.tl cl_sem
    have s3 : Sees l (i + (Qaq pats).length + 1 + (exT body 0).length) ((4, sSem) :: r) := s2.tl.app
    refine ⟨⟨(tkg l i).at_, ps', true, b'⟩, ?_, ?_⟩
    · unfold rowS
      simp only [e, List.nil_append]
      rw [Qan (k := 0) (i := i + (Qaq pats).length) s2, if_pos (by exact ⟨trivial, by decide +kernel⟩)]
      rw [show incS ⟨i + (Qaq pats).length, a, 0⟩ = ⟨i + (Qaq pats).length + 1, a, 0⟩ from rfl, e2]
      simp only [Qbr s3 (show mB (4, sSem) sSem = true by decide +kernel), rowT, bodyT, if_true, List.length_append, List.length_cons, List.length_nil]
      congr 2
      omega
    · simp only [eRw, hb]
      rw [← Qkf, ← Qkf, hps]
  | false =>
    simp only [Bool.false_eq_true, if_false] at hbody
    have s1 : Sees l i (Qaq pats ++ (4, sSem) :: r) := by simpa [bodyT] using s0
    have hle := s1.len (by simp; omega)
    simp only [List.length_append, List.length_cons] at hle
    obtain ⟨ps', e, hps⟩ := pats_read pats hp (l.length + 1) [] i a (4, sSem) (by omega) (by simp; omega) (Sees.pre (b := r) (by simpa using s1)) (by decide) (by decide +kernel)
    have s2 : Sees l (i + (Qaq pats).length) ((4, sSem) :: r) := s1.app
    refine ⟨⟨(tkg l i).at_, ps', false, zNd⟩, ?_, ?_⟩
    · unfold rowS
      simp only [e, List.nil_append]
      rw [Qan (k := 0) (i := i + (Qaq pats).length) s2, if_neg (by rw [show mB (4, sSem) sEq = false by decide +kernel]; simp)]
      simp only [Qbr s2 (show mB (4, sSem) sSem = true by decide +kernel), rowT, bodyT, Bool.false_eq_true, if_false, List.length_append, List.length_cons, List.length_nil, List.nil_append]
      congr 2
    · simp only [eRw, zero_e hbody]
      rw [← Qkf, ← Qkf, hps]
theorem row_first {w : Rw} (h : rowB w = true) : ∃ x ts, rowT w = x :: ts ∧ mB x sKet = false := by
  obtain ⟨at0, pats, has, body⟩ := w
  unfold rowB at h
  simp only [Bool.and_eq_true] at h
  cases pats with
  | nil =>
    cases has with
    | true => exact ⟨(4, sEq), _, rfl, by decide +kernel⟩
    | false => exact ⟨(4, sSem), _, rfl, by decide +kernel⟩
  | cons t ts =>
    have hg := Qhb (List.all_eq_true.1 h.1.2 t List.mem_cons_self)
    obtain ⟨k, a, s, n, sub⟩ := t
    obtain ⟨-, hc⟩ := Qir hg
    rcases hc with ⟨rfl, rfl, -⟩ | ⟨rfl, rfl, -⟩ | ⟨rfl, rfl, -⟩ | ⟨rfl, -, x, rfl, -⟩ | ⟨rfl, -, -, -⟩
    · exact ⟨(1, s), _, by simp only [rowT, Qaq, patT, if_true, List.cons_append]; rfl, rfl⟩
    · exact ⟨(1, ⟨#[95]⟩), _, by simp only [rowT, Qaq]; rw [show patT (.mk 7 a s n []) = [(1, ⟨#[95]⟩)] by simp [patT]]; rfl, rfl⟩
    · exact ⟨(4, sPar), _, by simp only [rowT, Qaq]; rw [show patT (.mk 9 a s n []) = [(4, sPar), (4, sRap)] by simp [patT]]; rfl, by decide +kernel⟩
    · exact ⟨(4, sDot), _, by simp only [rowT, Qaq]; rw [show patT (.mk 10 a s n [x]) = (4, sDot) :: exT x 2 by simp [patT, dotT]]; rfl, by decide +kernel⟩
    · exact ⟨(4, sPar), _, by simp only [rowT, Qaq]; rw [show patT (.mk 8 a s n sub) = (4, sPar) :: (1, s) :: (Qaq sub ++ [(4, sRap)]) by simp [patT]]; rfl, by decide +kernel⟩
theorem rows_read {l : List Tk} : ∀ (ws : List Rw), (∀ w ∈ ws, rowB w = true) → ∀ n acc i a r, ws.length < n → acc.length + ws.length ≤ 32 → Sees l i (Qeg ws ++ (4, sKet) :: r) →
    ∃ ws', Qdt l n acc ⟨i, a, 0⟩ = (acc ++ ws', ⟨i + (Qeg ws).length, a, 0⟩) ∧ ws'.map eRw = ws.map eRw := by
  intro ws
  induction ws with
  | nil =>
    intro _ n acc i a r hn _ hs
    obtain ⟨n', rfl⟩ : ∃ n', n = n' + 1 := ⟨n - 1, by simp at hn; omega⟩
    refine ⟨[], ?_, rfl⟩
    have h : Qeo l ⟨i, a, 0⟩ = false := by
      unfold Qeo
      rw [Qan (k := 0) (x := (4, sKet)) (b := r) hs]; decide +kernel
    rw [Qdt, if_neg (by rw [h]; simp), List.append_nil]
    rfl
  | cons w ws ih =>
    intro hg n acc i a r hn hl hs
    obtain ⟨n', rfl⟩ : ∃ n', n = n' + 1 := ⟨n - 1, by simp at hn; omega⟩
    simp only [List.length_cons] at hn hl
    have s0 : Sees l i (rowT w ++ (Qeg ws ++ (4, sKet) :: r)) := by simpa [Qeg] using hs
    obtain ⟨w', e, hw⟩ := row_read (a := a) (hg w List.mem_cons_self) s0
    have s1 : Sees l (i + (rowT w).length) (Qeg ws ++ (4, sKet) :: r) := s0.app
    obtain ⟨ws', e2, hws⟩ := ih (fun x hx => hg x (List.mem_cons_of_mem _ hx)) n' (acc ++ [w']) (i + (rowT w).length) a r (by omega) (by simp; omega) s1
    refine ⟨w' :: ws', ?_, by simp only [List.map_cons, hw, hws]⟩
    obtain ⟨x, ts, e1, hx⟩ := row_first (hg w List.mem_cons_self)
    have h : Qeo l ⟨i, a, 0⟩ = true := by
      unfold Qeo
      rw [e1] at s0
      rw [Qan (k := 0) s0, hx]; rfl
    rw [Qdt, if_pos ⟨rfl, h⟩, if_neg (by omega)]
    simp only [e, e2, List.append_assoc, List.cons_append, List.nil_append, Qeg, List.length_append, Nat.add_assoc]
theorem kind_sees {l : List Tk} {i : Nat} {k : Int} {r : List (Int × ByteArray)} (hk : 1 ≤ k ∧ k ≤ 3) (hs : Sees l i (kwT k :: r)) (a e : Int) : Qcx l ⟨i, a, e⟩ = k := by
 unfold Qcx
 rw [Qan (k := 0) hs, Qan (k := 0) hs, Qan (k := 0) hs]
 rcases (show k = 1 ∨ k = 2 ∨ k = 3 by omega) with rfl | rfl | rfl
 ·rw [if_pos (by decide +kernel)]
 ·rw [if_neg (by decide +kernel), if_pos (by decide +kernel)]
 ·rw [if_neg (by decide +kernel), if_neg (by decide +kernel), if_pos (by decide +kernel)]
theorem decl_read {l : List Tk} {d : Dc} (h : Qbt d = true) {i : Nat} {a : Int} {r : List (Int × ByteArray)} (hs : Sees l i (Qfm d ++ r)) : ∃ d', Qet l ⟨i, a, 0⟩ = (d', ⟨i + (Qfm d).length, a, 0⟩) ∧ eDc d' = eDc d := by
 obtain ⟨kd, at0, nm, te, ty, co, ro⟩ := d
 unfold Qbt at h
 simp only [Bool.and_eq_true, decide_eq_true_eq, Bool.not_eq_true', decide_eq_false_iff_not] at h
 obtain ⟨⟨⟨⟨⟨⟨⟨⟨hk, hn⟩, hty⟩, hte⟩, hco⟩, h3a⟩, h3b⟩, hrl⟩, hro⟩ := h
 unfold Qcb at hte hco
 simp only [Bool.and_eq_true, decide_eq_true_eq] at hte hco
 have hnb : nB (1, nm) = true := by unfold nB; rw [Qgu hn]; rfl
 have s0 : Sees l i (kwT kd :: (1, nm) :: (Qcf te ++ (4, sCol) :: (exT ty 0 ++ (4, sBra) :: (Qdk co ++ (Qeg ro ++ (4, sKet) :: r))))) := by simpa [Qfm] using hs
 have hK := kind_sees hk s0 a 0
 have s2 : Sees l (i + 1 + 1) (Qcf te ++ (4, sCol) :: (exT ty 0 ++ (4, sBra) :: (Qdk co ++ (Qeg ro ++ (4, sKet) :: r)))) := s0.tl.tl
 have hle := s0.len (by simp)
 simp only [List.length_append, List.length_cons] at hle
 have htl : te.length ≤ (Qcf te).length := by
  clear s0 s2 hs hle hte h3a hK
  induction te with
  | nil => exact Nat.zero_le _
  | cons b bs ih => simp only [Qcf, List.length_cons, List.length_append]; omega
 have hcl : co.length ≤ (Qdk co).length := by
  clear s0 s2 hs hle hco h3a hK
  induction co with
  | nil => exact Nat.zero_le _
  | cons b bs ih => simp only [Qdk, List.length_cons, List.length_append]; omega
 have hwl : ro.length ≤ (Qeg ro).length := by
  clear s0 s2 hs hle h3b hrl hro hK
  induction ro with
  | nil => exact Nat.zero_le _
  | cons b bs ih => simp only [Qeg, rowT, List.length_cons, List.length_append, List.length_nil]; omega
 have s3 : Sees l (i + 1 + 1 + (Qcf te).length) ((4, sCol) :: (exT ty 0 ++ (4, sBra) :: (Qdk co ++ (Qeg ro ++ (4, sKet) :: r)))) := s2.app
 obtain ⟨ty', e3, hty'⟩ := expr_top (a := a) hty s3.tl cl_bra
 have s4 : Sees l (i + 1 + 1 + (Qcf te).length + 1 + (exT ty 0).length) ((4, sBra) :: (Qdk co ++ (Qeg ro ++ (4, sKet) :: r))) := s3.tl.app
 have hname := Qif (a := a) s0.tl hnb
 simp only at hname
 by_cases h3 : kd = 3
 ·have ht0 : te = [] ∧ co = [] := by
   have : ¬ (0 < (te.length : Int) + co.length) := fun h => h3a ⟨h3, h⟩
   exact ⟨List.eq_nil_of_length_eq_zero (by omega), List.eq_nil_of_length_eq_zero (by omega)⟩
  obtain ⟨rfl, rfl⟩ := ht0
  simp only [Qcf, Qdk, List.length_nil, List.nil_append, Nat.add_zero] at s2 s3 s4 e3 hle ⊢
  obtain ⟨ro', e5, hro'⟩ := rows_read ro (fun w hw => List.all_eq_true.1 hro w hw) (l.length + 1) [] (i + 1 + 1 + 1 + (exT ty 0).length + 1) a r (by omega) (by simp; omega) s4.tl
  have s6 : Sees l (i + 1 + 1 + 1 + (exT ty 0).length + 1 + (Qeg ro).length) ((4, sKet) :: r) := s4.tl.app
  refine ⟨⟨3, (tkg l i).at_, nm, [], ty', [], ro'⟩, ?_, ?_⟩
  ·rw [decl_3 (by rw [hK, h3])]
   rw [show incS ⟨i, a, 0⟩ = ⟨i + 1, a, 0⟩ from rfl, hname]
   simp only
   rw [Qbr s3 (show mB (4, sCol) sCol = true by decide +kernel), e3]
   simp only
   rw [Qbr s4 (show mB (4, sBra) sBra = true by decide +kernel), e5]
   simp only [List.nil_append]
   rw [Qbr s6 (show mB (4, sKet) sKet = true by decide +kernel)]
   simp only [Qfm, Qcf, Qdk, List.nil_append, List.length_cons, List.length_append, List.length_nil]
   congr 2
   omega
  ·simp only [eDc, hty', hro', h3, List.map_nil]
 ·have hr0 : ro = [] := List.eq_nil_of_length_eq_zero (by
   have : ¬ (0 < ro.length) := fun h => h3b ⟨h3, h⟩
   omega)
  subst hr0
  simp only [Qeg, List.nil_append] at s2 s3 s4 hle ⊢
  obtain ⟨te', e2, hte'⟩ := teles_read te (fun b hb => List.all_eq_true.1 hte.2 b hb) (l.length + 1) [] (i + 1 + 1) a (4, sCol) _ (by omega) (by have := hte.1; simp; omega) s2 (by decide +kernel)
  obtain ⟨co', e5, hco'⟩ := conss_read co (fun b hb => List.all_eq_true.1 hco.2 b hb) (l.length + 1) [] (i + 1 + 1 + (Qcf te).length + 1 + (exT ty 0).length + 1) a r (by omega) (by have := hco.1; simp; omega) s4.tl
  have s6 : Sees l (i + 1 + 1 + (Qcf te).length + 1 + (exT ty 0).length + 1 + (Qdk co).length) ((4, sKet) :: r) := s4.tl.app
  refine ⟨⟨kd, (tkg l i).at_, nm, te', ty', co', []⟩, ?_, ?_⟩
  ·rw [decl_1 (by rw [hK]; omega) (by rw [hK]; exact h3), hK]
   rw [show incS ⟨i, a, 0⟩ = ⟨i + 1, a, 0⟩ from rfl, hname]
   simp only
   rw [show Qfq l ⟨i + 1 + 1, a, 0⟩ = (te', ⟨i + 1 + 1 + (Qcf te).length, a, 0⟩) from e2]
   simp only
   rw [Qbr s3 (show mB (4, sCol) sCol = true by decide +kernel), e3]
   simp only
   rw [Qbr s4 (show mB (4, sBra) sBra = true by decide +kernel)]
   rw [show consS l ⟨i + 1 + 1 + (Qcf te).length + 1 + (exT ty 0).length + 1, a, 0⟩ = (co', ⟨i + 1 + 1 + (Qcf te).length + 1 + (exT ty 0).length + 1 + (Qdk co).length, a, 0⟩) from e5]
   simp only
   rw [Qbr s6 (show mB (4, sKet) sKet = true by decide +kernel)]
   simp only [Qfm, Qeg, List.nil_append, List.length_cons, List.length_append, List.length_nil]
   congr 2
   omega
  ·simp only [eDc, hty', hte', hco', List.map_nil]
def Qfh : List Dc → List (Int × ByteArray)
 | [] => []
 | d :: ds => Qfm d ++ Qfh ds
theorem file_read {l : List Tk} : ∀ (ds : List Dc), (∀ d ∈ ds, Qbt d = true) → ∀ n acc i a, ds.length < n → Sees l i (Qfh ds ++ [(5, ⟨#[]⟩)]) →
    ∃ ds', Qdw l n acc ⟨i, a, 0⟩ = (acc ++ ds', ⟨i + (Qfh ds).length, a, 0⟩) ∧ ds'.map eDc = ds.map eDc := by
  intro ds
  induction ds with
  | nil =>
    intro _ n acc i a hn hs
    obtain ⟨n', rfl⟩ : ∃ n', n = n' + 1 := ⟨n - 1, by simp at hn; omega⟩
    refine ⟨[], ?_, rfl⟩
    have h : (tkg l i).kind = 5 := (Sees.hd (x := (5, ⟨#[]⟩)) (b := []) hs).1
    rw [Qdw, if_neg (by intro e; exact e.2 h), List.append_nil]
    rfl
  | cons d ds ih =>
    intro hg n acc i a hn hs
    obtain ⟨n', rfl⟩ : ∃ n', n = n' + 1 := ⟨n - 1, by simp at hn; omega⟩
    simp only [List.length_cons] at hn
    have s0 : Sees l i (Qfm d ++ (Qfh ds ++ [(5, ⟨#[]⟩)])) := by simpa [Qfh] using hs
    obtain ⟨d', e, hd⟩ := decl_read (a := a) (hg d List.mem_cons_self) s0
    have s1 : Sees l (i + (Qfm d).length) (Qfh ds ++ [(5, ⟨#[]⟩)]) := s0.app
    obtain ⟨ds', e2, hds⟩ := ih (fun x hx => hg x (List.mem_cons_of_mem _ hx)) n' (acc ++ [d']) (i + (Qfm d).length) a (by omega) s1
    refine ⟨d' :: ds', ?_, by simp only [List.map_cons, hd, hds]⟩
    have h : (tkg l i).kind = 2 := by
      unfold Qfm at s0
      rw [List.cons_append] at s0
      exact s0.hd.1
    rw [Qdw, if_pos ⟨rfl, by rw [h]; decide⟩]
    simp only [e, e2, List.append_assoc, List.cons_append, List.nil_append, Qfh, List.length_append, Nat.add_assoc]
end Go.Proofs.Ytahhgpafjiljfaa

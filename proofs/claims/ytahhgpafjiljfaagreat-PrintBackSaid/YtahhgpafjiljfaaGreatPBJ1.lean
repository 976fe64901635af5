import Derived.Test.YtahhgpafjiljfaaGreatPBJ
import Derived.Test.YtahhgpafjiljfaaGreatPBZ1
import Derived.Test.YtahhgpafjiljfaaGreatPBW
set_option linter.unusedSimpArgs false
set_option linter.unusedVariables false
set_option maxHeartbeats 16000000
set_option maxRecDepth 100000
namespace Go.Proofs.YtahhgpafjiljfaaGreat
open Go.RowKit
def tk4 (s : ByteArray) : Pc := .tok 4 s
def Qfn (b : Bool) (l : List Pc) : List Pc := if b then tk4 sPar :: (l ++ [tk4 sRap]) else l
def inP : Nd → List Pc
  | .mk k _ s _ [x, y] =>
    if k = 5 then Qfn (par x 1) (inP x) ++ .sp 32 :: Qfn (par y 2) (inP y)
    else if k = 3 ∧ s = ⟨#[95]⟩ then Qfn (par x 1) (inP x) ++ .sp 32 :: tk4 sArr :: .sp 32 :: Qfn (par y 0) (inP y)
    else (if k = 4 then [tk4 sLam, .sp 32] else []) ++ (tk4 sPar :: .tok 1 s :: .sp 32 :: tk4 sCol :: .sp 32 :: (Qfn (par x 0) (inP x) ++ tk4 sRap :: .sp 32 :: tk4 sArr :: .sp 32 :: Qfn (par y 0) (inP y)))
  | .mk k _ s n _ => if k = 1 then [.tok 1 s] else .tok 2 sSet :: (if 0 < n then [.sp 32, .tok 3 (numS n)] else [])
def exP (t : Nd) (lv : Int) : List Pc := Qfn (par t lv) (inP t)
theorem Qfe (k : Int) (s : ByteArray) (l : List Pc) : Qbp (.tok k s :: l) = s.toList ++ Qbp l := rfl
theorem Qis (b : UInt8) (l : List Pc) : Qbp (.sp b :: l) = b :: Qbp l := rfl
theorem Qhy : Qbp [] = [] := rfl
theorem Qls (k : Int) (s : ByteArray) (l : List Pc) : Qcb (.tok k s :: l) = (k, s) :: Qcb l := rfl
theorem Qlr (b : UInt8) (l : List Pc) : Qcb (.sp b :: l) = Qcb l := rfl
theorem toksP_nil : Qcb [] = [] := rfl
theorem sPar_l : sPar.toList = [40] := by unfold sPar; rw [ByteArray.toList_eq]
theorem sRap_l : sRap.toList = [41] := by unfold sRap; rw [ByteArray.toList_eq]
theorem sCol_l : sCol.toList = [58] := by unfold sCol; rw [ByteArray.toList_eq]
theorem sArr_l : sArr.toList = [45, 62] := by unfold sArr; rw [ByteArray.toList_eq]
theorem sLam_l : sLam.toList = [92] := by unfold sLam; rw [ByteArray.toList_eq]
theorem sSet_l : sSet.toList = [83, 101, 116] := by unfold sSet; rw [ByteArray.toList_eq]
theorem sDot_l : sDot.toList = [46] := by unfold sDot; rw [ByteArray.toList_eq]
theorem sEq_l : sEq.toList = [61] := by unfold sEq; rw [ByteArray.toList_eq]
theorem sSem_l : sSem.toList = [59] := by unfold sSem; rw [ByteArray.toList_eq]
theorem sKet_l : sKet.toList = [125] := by unfold sKet; rw [ByteArray.toList_eq]
theorem sData_l : sData.toList = [100, 97, 116, 97] := by unfold sData; rw [ByteArray.toList_eq]
theorem sRec_l : sRec.toList = [114, 101, 99, 111, 114, 100] := by unfold sRec; rw [ByteArray.toList_eq]
theorem sDef_l : sDef.toList = [100, 101, 102] := by unfold sDef; rw [ByteArray.toList_eq]
theorem wrapP_b (b : Bool) (l : List Pc) : Qbp (Qfn b l) = Qgb b (Qbp l) := by
 unfold Qfn Qgb tk4
 cases b
 ·rfl
 ·simp only [if_true, Qfe, Qgo, Qhy, sPar_l, sRap_l, List.append_nil, List.append_assoc]
theorem wrapP_t (b : Bool) (l : List Pc) : Qcb (Qfn b l) = Qgw b (Qcb l) := by
 unfold Qfn Qgw tk4
 cases b
 ·rfl
 ·simp only [if_true, Qls, Qhs, toksP_nil, List.cons_append, List.nil_append]
theorem inP_2 (k a n : Int) (s : ByteArray) (x y : Nd) : inP (.mk k a s n [x, y]) = if k = 5 then exP x 1 ++ .sp 32 :: exP y 2
  else if k = 3 ∧ s = ⟨#[95]⟩ then exP x 1 ++ .sp 32 :: tk4 sArr :: .sp 32 :: exP y 0
  else (if k = 4 then [tk4 sLam, .sp 32] else []) ++ (tk4 sPar :: .tok 1 s :: .sp 32 :: tk4 sCol :: .sp 32 :: (exP x 0 ++ tk4 sRap :: .sp 32 :: tk4 sArr :: .sp 32 :: exP y 0)) := by
 rw [inP]; rfl
theorem inP_0 (k a n : Int) (s : ByteArray) : inP (.mk k a s n []) = if k = 1 then [.tok 1 s] else .tok 2 sSet :: (if 0 < n then [.sp 32, .tok 3 (numS n)] else []) := by
 rw [inP]
 intros; simp_all
theorem ex_pieces : ∀ (m : Nat) (t : Nd), SizeOf.sizeOf t ≤ m → Qaj t false = true → Qbp (inP t) = inL t ∧ Qcb (inP t) = inT t ∧ okP (inP t) = true ∧ (∀ p ∈ inP t, p.valid) := by
  intro m
  induction m with
  | zero => intro t h; cases t; simp at h
  | succ m ih =>
    intro t hm hg
    obtain ⟨k, a, s, n, sub⟩ := t
    have hv4 : ∀ x : ByteArray, markS x = true → (tk4 x).valid := fun x h => .inr (.inr (.inr ⟨rfl, h⟩))
    have hvs : (Pc.sp 32).valid := .inl rfl
    have m1 := hv4 sPar (by decide +kernel)
    have m2 := hv4 sRap (by decide +kernel)
    have m3 := hv4 sCol (by decide +kernel)
    have m4 := hv4 sArr (by decide +kernel)
    have m5 := hv4 sLam (by decide +kernel)
    rcases Qhk hg with ⟨rfl, rfl, hr, rfl⟩ | ⟨rfl, rfl, hn0, hn7, rfl⟩ | ⟨x, y, rfl, hx, hy, rfl, hk⟩
    · rw [inP_0, if_pos rfl, Qlc _ _ _ _ rfl, Qhg _ _ _ _ rfl]
      refine ⟨by simp [Qfe, Qhy], rfl, rfl, ?_⟩
      intro p hp
      rw [List.mem_singleton] at hp
      subst hp
      exact .inl ⟨rfl, .inr hr⟩
    · rw [inP_0, if_neg (by decide), inL_set _ _ _ _ rfl, Qik _ _ _ _ rfl]
      have k1 : (Pc.tok 2 sSet).valid := .inr (.inl ⟨rfl, by decide +kernel⟩)
      by_cases hp : 0 < n
      · rw [if_pos hp, if_pos hp, if_pos hp]
        refine ⟨by simp only [Qfe, Qis, Qhy, sSet_l, List.append_nil, List.cons_append, List.nil_append], rfl, rfl, ?_⟩
        intro p hq
        simp only [List.mem_cons, List.not_mem_nil, or_false] at hq
        rcases hq with rfl | rfl | rfl
        · exact k1
        · exact hvs
        · obtain ⟨q, rfl⟩ := Int.eq_ofNat_of_zero_le hn0
          exact .inr (.inr (.inl ⟨rfl, q, by omega, by omega, rfl⟩))
      · rw [if_neg hp, if_neg hp, if_neg hp]
        refine ⟨by simp only [Qfe, Qhy, sSet_l, List.append_nil], rfl, rfl, ?_⟩
        intro p hq
        rw [List.mem_singleton] at hq
        subst hq
        exact k1
    · simp only [Nd.mk.sizeOf_spec, List.cons.sizeOf_spec] at hm
      obtain ⟨x1, x2, x3, x4⟩ := ih x (by omega) hx
      obtain ⟨y1, y2, y3, y4⟩ := ih y (by omega) hy
      have wb : ∀ (u : Nd) (lv : Int), Qbp (inP u) = inL u → Qbp (exP u lv) = exL u lv := fun u lv h => by unfold exP exL; rw [wrapP_b, h]
      have wt : ∀ (u : Nd) (lv : Int), Qcb (inP u) = inT u → Qcb (exP u lv) = exT u lv := fun u lv h => by unfold exP exT; rw [wrapP_t, h]
      have wo : ∀ (u : Nd) (lv : Int), okP (inP u) = true → okP (exP u lv) = true := fun u lv h => by
        unfold exP Qfn
        split
        · exact Qdq rfl (okP_end rfl h)
        · exact h
      have wv : ∀ (u : Nd) (lv : Int), (∀ p ∈ inP u, p.valid) → ∀ p ∈ exP u lv, p.valid := fun u lv h p hp => by
        unfold exP Qfn at hp
        split at hp
        · simp only [List.mem_cons, List.mem_append, List.not_mem_nil, or_false] at hp
          rcases hp with rfl | hp | rfl
          · exact m1
          · exact h p hp
          · exact m2
        · exact h p hp
      have tail : ∀ nm : ByteArray, (nm = ⟨#[95]⟩ ∨ Qam nm = true) → Qbp (tk4 sPar :: .tok 1 nm :: .sp 32 :: tk4 sCol :: .sp 32 :: (exP x 0 ++ tk4 sRap :: .sp 32 :: tk4 sArr :: .sp 32 :: exP y 0)) = binL nm x y ∧ Qcb (tk4 sPar :: .tok 1 nm :: .sp 32 :: tk4 sCol :: .sp 32 :: (exP x 0 ++ tk4 sRap :: .sp 32 :: tk4 sArr :: .sp 32 :: exP y 0)) = binT nm x y ∧ okP (tk4 sPar :: .tok 1 nm :: .sp 32 :: tk4 sCol :: .sp 32 :: (exP x 0 ++ tk4 sRap :: .sp 32 :: tk4 sArr :: .sp 32 :: exP y 0)) = true ∧ ∀ p ∈ (tk4 sPar :: .tok 1 nm :: .sp 32 :: tk4 sCol :: .sp 32 :: (exP x 0 ++ tk4 sRap :: .sp 32 :: tk4 sArr :: .sp 32 :: exP y 0)), p.valid := by
        intro nm hnm
        refine ⟨?_, ?_, ?_, ?_⟩
        · unfold tk4 binL
          simp only [Qfe, Qis, Qgo, wb x 0 x1, wb y 0 y1, sPar_l, sRap_l, sCol_l, sArr_l, List.append_assoc, List.cons_append, List.nil_append]
        · unfold tk4 binT
          simp only [Qls, Qlr, Qhs, wt x 0 x2, wt y 0 y2, List.append_assoc, List.cons_append, List.nil_append]
        · have h1 : okP (tk4 sRap :: .sp 32 :: tk4 sArr :: .sp 32 :: exP y 0) = true := Qdq rfl (Qdq rfl (Qdq rfl (Qdq rfl (wo y 0 y3))))
          have h2 : okP (exP x 0 ++ tk4 sRap :: .sp 32 :: tk4 sArr :: .sp 32 :: exP y 0) = true := Qhn rfl (wo x 0 x3) (okP_tl h1)
          have h3 : okP (.sp 32 :: tk4 sCol :: .sp 32 :: (exP x 0 ++ tk4 sRap :: .sp 32 :: tk4 sArr :: .sp 32 :: exP y 0)) = true := Qdq rfl (Qdq rfl (Qdq rfl h2))
          exact Qdq rfl (Qhn (a := [.tok 1 nm]) rfl rfl (okP_tl h3))
        · intro p hp
          simp only [List.mem_cons, List.mem_append] at hp
          rcases hp with rfl | rfl | rfl | rfl | rfl | hp | rfl | rfl | rfl | rfl | hp
          · exact m1
          · exact .inl ⟨rfl, hnm⟩
          · exact hvs
          · exact m3
          · exact hvs
          · exact wv x 0 x4 p hp
          · exact m2
          · exact hvs
          · exact m4
          · exact hvs
          · exact wv y 0 y4 p hp
      rw [inP_2]
      rcases hk with ⟨rfl, hsn⟩ | ⟨rfl, hsn⟩ | ⟨rfl, rfl⟩
      · by_cases h9 : s = ⟨#[95]⟩
        · rw [if_neg (by decide), if_pos ⟨rfl, h9⟩, Qjy _ _ _ _ _ _ rfl h9, Qjz _ _ _ _ _ _ rfl h9]
          refine ⟨?_, ?_, ?_, ?_⟩
          · unfold tk4
            simp only [Qfe, Qis, Qgo, wb x 1 x1, wb y 0 y1, sArr_l, List.append_assoc, List.cons_append, List.nil_append]
          · unfold tk4
            simp only [Qls, Qlr, Qhs, wt x 1 x2, wt y 0 y2, List.append_assoc, List.cons_append, List.nil_append]
          · exact Qhn rfl (wo x 1 x3) (Qdq rfl (Qdq rfl (wo y 0 y3)))
          · intro p hp
            simp only [List.mem_cons, List.mem_append] at hp
            rcases hp with hp | rfl | rfl | rfl | hp
            · exact wv x 1 x4 p hp
            · exact hvs
            · exact m4
            · exact hvs
            · exact wv y 0 y4 p hp
        · rw [if_neg (by decide), if_neg (fun h => h9 h.2), if_neg (by decide), List.nil_append, inL_pi _ _ _ _ _ _ rfl h9, inT_pi _ _ _ _ _ _ rfl h9]
          exact tail s hsn
      · rw [if_neg (by decide), if_neg (fun h => by cases h.1), if_pos rfl, inL_lam _ _ _ _ _ _ rfl, inT_lam _ _ _ _ _ _ rfl]
        obtain ⟨t1, t2, t3, t4⟩ := tail s hsn
        refine ⟨?_, ?_, ?_, ?_⟩
        · rw [List.cons_append, List.cons_append, List.nil_append]
          unfold tk4 at t1 ⊢
          rw [Qfe, Qis, t1, sLam_l]; rfl
        · rw [List.cons_append, List.cons_append, List.nil_append]
          unfold tk4 at t2 ⊢
          rw [Qls, Qlr, t2]
        · exact Qdq rfl (Qdq rfl t3)
        · intro p hp
          rw [List.cons_append, List.cons_append, List.nil_append] at hp
          rcases List.mem_cons.1 hp with rfl | hp
          · exact m5
          · rcases List.mem_cons.1 hp with rfl | hp
            · exact hvs
            · exact t4 p hp
      · rw [if_pos rfl, inL_app _ _ _ _ _ _ rfl, Qji _ _ _ _ _ _ rfl]
        refine ⟨?_, ?_, ?_, ?_⟩
        · simp only [Qis, Qgo, wb x 1 x1, wb y 2 y1, List.append_assoc, List.cons_append, List.nil_append]
        · simp only [Qlr, Qhs, wt x 1 x2, wt y 2 y2]
        · exact Qhn rfl (wo x 1 x3) (wo y 2 y3)
        · intro p hp
          simp only [List.mem_cons, List.mem_append] at hp
          rcases hp with hp | rfl | hp
          · exact wv x 1 x4 p hp
          · exact hvs
          · exact wv y 2 y4 p hp
structure PcOk (ps : List Pc) (b : List UInt8) (ts : List (Int × ByteArray)) : Prop where
 by' : Qbp ps = b
 tk : Qcb ps = ts
 ok : okP ps = true
 va : ∀ p ∈ ps, p.valid
theorem ex_pc {t : Nd} (hg : Qaj t false = true) (lv : Int) : PcOk (exP t lv) (exL t lv) (exT t lv) := by
 obtain ⟨h1, h2, h3, h4⟩ := ex_pieces _ t (Nat.le_refl _) hg
 refine ⟨by unfold exP exL; rw [wrapP_b, h1], by unfold exP exT; rw [wrapP_t, h2], ?_, ?_⟩
 ·unfold exP Qfn
  split
  ·exact Qdq rfl (okP_end rfl h3)
  ·exact h3
 ·intro p hp
  unfold exP Qfn at hp
  split at hp
  ·simp only [List.mem_cons, List.mem_append, List.not_mem_nil, or_false] at hp
   rcases hp with rfl | hp | rfl
   ·exact .inr (.inr (.inr ⟨rfl, by decide +kernel⟩))
   ·exact h4 p hp
   ·exact .inr (.inr (.inr ⟨rfl, by decide +kernel⟩))
  ·exact h4 p hp
def HS (l : List Pc) : Prop := l = [] ∨ ∃ c r, l = c :: r ∧ c.safe = true
theorem HS.nil : HS [] := .inl rfl
theorem HS.cons {c : Pc} {r : List Pc} (h : c.safe = true) : HS (c :: r) := .inr ⟨c, r, rfl, h⟩
theorem okP_app {a b : List Pc} (ha : okP a = true) (hb : okP b = true) (h : HS b) : okP (a ++ b) = true := by
 rcases h with rfl | ⟨c, r, rfl, hc⟩
 ·rw [List.append_nil]; exact ha
 ·exact Qhn hc ha (okP_tl hb)
theorem PcOk.nil : PcOk [] [] [] := ⟨rfl, rfl, rfl, fun _ h => by cases h⟩
theorem PcOk.app {p q : List Pc} {b c : List UInt8} {t u : List (Int × ByteArray)} (h1 : PcOk p b t) (h2 : PcOk q c u) (h : HS q) : PcOk (p ++ q) (b ++ c) (t ++ u) :=
 ⟨by rw [Qgo, h1.by', h2.by'], by rw [Qhs, h1.tk, h2.tk], okP_app h1.ok h2.ok h, fun x hx => by
  rcases List.mem_append.1 hx with hx | hx
  ·exact h1.va x hx
  ·exact h2.va x hx⟩
theorem PcOk.safe {p : Pc} {q : List Pc} {c : List UInt8} {u : List (Int × ByteArray)} (hv : p.valid) (hs : p.safe = true) (h2 : PcOk q c u) : PcOk (p :: q) (p.bytes ++ c) (p.tk ++ u) :=
 ⟨by rw [Qmt, h2.by'], by rw [Qjf, h2.tk], Qdq hs h2.ok, fun x hx => by
  rcases List.mem_cons.1 hx with rfl | hx
  ·exact hv
  ·exact h2.va x hx⟩
theorem PcOk.mark {s : ByteArray} {m : List UInt8} (hm : s.toList = m) (h : markS s = true) {q : List Pc} {c : List UInt8} {u : List (Int × ByteArray)} (h2 : PcOk q c u) : PcOk (tk4 s :: q) (m ++ c) ((4, s) :: u) := by
 have h0 : PcOk (.tok 4 s :: q) (s.toList ++ c) ((4, s) :: u) := PcOk.safe (p := .tok 4 s) (.inr (.inr (.inr ⟨rfl, h⟩))) rfl h2
 rw [hm] at h0
 exact h0
theorem PcOk.sp {b : UInt8} (hb : b = 32 ∨ b = 10) {q : List Pc} {c : List UInt8} {u : List (Int × ByteArray)} (h2 : PcOk q c u) : PcOk (.sp b :: q) (b :: c) u := PcOk.safe (p := .sp b) hb rfl h2
theorem PcOk.bra {q : List Pc} {c : List UInt8} {u : List (Int × ByteArray)} (h2 : PcOk q c u) : PcOk (.bra :: q) (123 :: 10 :: c) ((4, sBra) :: u) := PcOk.safe (p := .bra) trivial rfl h2
theorem PcOk.word {k : Int} {s : ByteArray} (hv : (Pc.tok k s).valid) {q : List Pc} {c : List UInt8} {u : List (Int × ByteArray)} (h2 : PcOk q c u) (h : HS q) : PcOk (.tok k s :: q) (s.toList ++ c) ((k, s) :: u) := by
 have h1 : PcOk [.tok k s] s.toList [(k, s)] := ⟨by rw [Qfe, Qhy, List.append_nil], rfl, rfl, fun x hx => by rw [List.mem_singleton] at hx; subst hx; exact hv⟩
 exact h1.app h2 h
theorem PcOk.to {p : List Pc} {b c : List UInt8} {t u : List (Int × ByteArray)} (h : PcOk p b t) (e1 : b = c) (e2 : t = u) : PcOk p c u := by subst e1; subst e2; exact h
theorem name_va {s : ByteArray} (h : Qam s = true) : (Pc.tok 1 s).valid := .inl ⟨rfl, .inr h⟩
def dotP : List Nd → List Pc
 | [x] => exP x 2
 | _ => []
mutual
def patP : Nd → List Pc
 | .mk k _ s _ sub => if k = 6 then [.tok 1 s] else if k = 7 then [.tok 1 ⟨#[95]⟩] else if k = 9 then [tk4 sPar, tk4 sRap] else if k = 10 then tk4 sDot :: dotP sub else tk4 sPar :: .tok 1 s :: (patsP sub ++ [tk4 sRap])
def patsP : List Nd → List Pc
 | [] => []
 | t :: ts => .sp 32 :: (patP t ++ patsP ts)
end
theorem patsP_hs (ts : List Nd) : HS (patsP ts) := by
 cases ts with
 | nil => exact .nil
 | cons t ts => simp only [patsP]; exact .cons rfl
theorem low_l : (⟨#[95]⟩ : ByteArray).toList = [95] := by rw [ByteArray.toList_eq]
theorem pat_pc : ∀ (m : Nat) (t : Nd), SizeOf.sizeOf t ≤ m → Qaj t true = true → PcOk (patP t) (patL t) (patT t) := by
  intro m
  induction m with
  | zero => intro t h; cases t; simp at h
  | succ m ih =>
    intro t hm hg
    obtain ⟨k, a0, s, n0, sub⟩ := t
    obtain ⟨rfl, h⟩ := Qjd hg
    rcases h with ⟨rfl, rfl, hr⟩ | ⟨rfl, rfl, rfl⟩ | ⟨rfl, rfl, rfl⟩ | ⟨rfl, rfl, x, rfl, hx⟩ | ⟨rfl, hr, hne, hL⟩
    · have e1 : patP (.mk 6 a0 s 0 []) = [.tok 1 s] := by simp [patP]
      rw [e1]
      exact (PcOk.word (name_va hr) .nil .nil).to (by simp [patL]) (by simp [patT])
    · have e1 : patP (.mk 7 a0 ⟨#[]⟩ 0 []) = [.tok 1 ⟨#[95]⟩] := by simp [patP]
      rw [e1]
      exact (PcOk.word (k := 1) (.inl ⟨rfl, .inl rfl⟩) .nil .nil).to (by rw [low_l]; simp [patL]) (by simp [patT])
    · have e1 : patP (.mk 9 a0 ⟨#[]⟩ 0 []) = [tk4 sPar, tk4 sRap] := by simp [patP]
      rw [e1]
      exact (PcOk.mark sPar_l (by decide +kernel) (PcOk.mark sRap_l (by decide +kernel) .nil)).to (by simp [patL]) (by simp [patT])
    · have e1 : patP (.mk 10 a0 ⟨#[]⟩ 0 [x]) = tk4 sDot :: exP x 2 := by simp [patP, dotP]
      rw [e1]
      exact (PcOk.mark sDot_l (by decide +kernel) (ex_pc hx 2)).to (by simp [patL, dotL]) (by simp [patT, dotT])
    · have e1 : patP (.mk 8 a0 s 0 sub) = tk4 sPar :: .tok 1 s :: (patsP sub ++ [tk4 sRap]) := by simp [patP]
      rw [e1]
      simp only [Nd.mk.sizeOf_spec] at hm
      have key : ∀ ts : List Nd, (∀ t ∈ ts, t ∈ sub) → PcOk (patsP ts) (Qea ts) (Qar ts) := by
        intro ts
        induction ts with
        | nil => intro _; simp only [patsP, Qea, Qar]; exact .nil
        | cons t ts iht =>
          intro hts
          simp only [patsP, Qea, Qar]
          have h1 := ih t (by have := List.sizeOf_lt_of_mem (hts t List.mem_cons_self); omega) (Qge hL t (hts t List.mem_cons_self))
          have h2 := iht fun x hx => hts x (List.mem_cons_of_mem _ hx)
          exact (PcOk.sp (.inl rfl) (h1.app h2 (patsP_hs ts))).to (by simp) rfl
      have h3 := key sub fun _ h => h
      have h4 : PcOk (patsP sub ++ [tk4 sRap]) (Qea sub ++ [41]) (Qar sub ++ [(4, sRap)]) := h3.app (PcOk.mark sRap_l (by decide +kernel) .nil) (.cons rfl)
      have hhs : HS (patsP sub ++ [tk4 sRap]) := by
        rcases patsP_hs sub with h | ⟨c, r, h, hc⟩
        · rw [h]; exact .cons rfl
        · rw [h]; exact .cons hc
      exact (PcOk.mark sPar_l (by decide +kernel) (PcOk.word (name_va hr) h4 hhs)).to (by simp [patL]) (by simp [patT])
def bdP (b : Bd) : List Pc := .tok 1 b.name :: .sp 32 :: tk4 sCol :: .sp 32 :: exP b.ty 0
theorem bd_pc {b : Bd} (h : Qds b = true) : PcOk (bdP b) (bdL b) (bdT b) := by
 unfold Qds at h
 rw [Bool.and_eq_true] at h
 unfold bdP
 exact (PcOk.word (name_va h.1) (PcOk.sp (.inl rfl) (PcOk.mark sCol_l (by decide +kernel) (PcOk.sp (.inl rfl) (ex_pc (Qdw h.2) 0)))) (.cons rfl)).to (by simp [bdL]) rfl
def telesP : List Bd → List Pc
 | [] => []
 | b :: bs => .sp 32 :: tk4 sPar :: (bdP b ++ tk4 sRap :: telesP bs)
def consP' : List Bd → List Pc
 | [] => []
 | b :: bs => .sp 32 :: .sp 32 :: (bdP b ++ tk4 sSem :: .sp 10 :: consP' bs)
def patsWP : List Nd → List Pc
 | [] => []
 | t :: ts => patP t ++ .sp 32 :: patsWP ts
def rowP (r : Rw) : List Pc := .sp 32 :: .sp 32 :: (patsWP r.pats ++ ((if r.has then tk4 sEq :: .sp 32 :: exP r.body 0 else []) ++ [tk4 sSem, .sp 10]))
def rowsP : List Rw → List Pc
 | [] => []
 | r :: rs => rowP r ++ rowsP rs
theorem teles_hs (bs : List Bd) : HS (telesP bs) := by cases bs with
 | nil => exact .nil
 | cons b bs => exact .cons rfl
theorem rows_hs (rs : List Rw) : HS (rowsP rs) := by cases rs with
 | nil => exact .nil
 | cons b bs => exact .cons rfl
theorem teles_pc : ∀ (bs : List Bd), (∀ b ∈ bs, Qds b = true) → PcOk (telesP bs) (Qca bs) (Qcf bs) := by
  intro bs
  induction bs with
  | nil => intro _; exact .nil
  | cons b bs ih =>
    intro h
    have h1 := bd_pc (h b List.mem_cons_self)
    have h2 := ih fun x hx => h x (List.mem_cons_of_mem _ hx)
    exact (PcOk.sp (.inl rfl) (PcOk.mark sPar_l (by decide +kernel) (h1.app (PcOk.mark sRap_l (by decide +kernel) h2) (.cons rfl)))).to (by simp [Qca]) (by simp [Qcf])
theorem conss_pc : ∀ (bs : List Bd), (∀ b ∈ bs, Qds b = true) → PcOk (consP' bs) (Qdk bs) (Qdl bs) := by
  intro bs
  induction bs with
  | nil => intro _; exact .nil
  | cons b bs ih =>
    intro h
    have h1 := bd_pc (h b List.mem_cons_self)
    have h2 := ih fun x hx => h x (List.mem_cons_of_mem _ hx)
    exact (PcOk.sp (.inl rfl) (PcOk.sp (.inl rfl) (h1.app (PcOk.mark sSem_l (by decide +kernel) (PcOk.sp (.inr rfl) h2)) (.cons rfl)))).to (by simp [Qdk]) (by simp [Qdl])
theorem patsW_pc : ∀ (ts : List Nd), (∀ t ∈ ts, Qaj t true = true) → PcOk (patsWP ts) (Qfk ts) (Qar ts) := by
  intro ts
  induction ts with
  | nil => intro _; simp only [patsWP, Qfk, Qar]; exact .nil
  | cons t ts ih =>
    intro h
    have h1 := pat_pc _ t (Nat.le_refl _) (h t List.mem_cons_self)
    have h2 := ih fun x hx => h x (List.mem_cons_of_mem _ hx)
    simp only [patsWP, Qfk, Qar]
    exact (h1.app (PcOk.sp (.inl rfl) h2) (.cons rfl)).to (by simp) rfl
theorem row_pc {r : Rw} (h : rowB r = true) : PcOk (rowP r) (rowL r) (rowT r) := by
  obtain ⟨at0, pats, has, body⟩ := r
  unfold rowB at h
  simp only [Bool.and_eq_true] at h
  have hp := patsW_pc pats fun t ht => Qfg (List.all_eq_true.1 h.1.2 t ht)
  have hend : PcOk [tk4 sSem, .sp 10] [59, 10] [(4, sSem)] := PcOk.mark sSem_l (by decide +kernel) (PcOk.sp (.inr rfl) .nil)
  cases has with
  | true =>
    have hb := ex_pc (Qdw (show Qbt body = true from h.2)) 0
    have h1 := hb.app hend (.cons rfl)
    have h2 : PcOk (tk4 sEq :: .sp 32 :: (exP body 0 ++ [tk4 sSem, .sp 10])) _ _ := PcOk.mark sEq_l (by decide +kernel) (PcOk.sp (.inl rfl) h1)
    have h3 := hp.app h2 (.cons rfl)
    exact (PcOk.sp (.inl rfl) (PcOk.sp (.inl rfl) h3)).to (by simp [rowL]) (by simp [rowT, bodyT])
  | false =>
    have h3 := hp.app hend (.cons rfl)
    exact (PcOk.sp (.inl rfl) (PcOk.sp (.inl rfl) h3)).to (by simp [rowL]) (by simp [rowT, bodyT])
theorem rows_pc : ∀ (rs : List Rw), (∀ r ∈ rs, rowB r = true) → PcOk (rowsP rs) (Qet rs) (Qek rs) := by
  intro rs
  induction rs with
  | nil => intro _; exact .nil
  | cons r rs ih =>
    intro h
    exact ((row_pc (h r List.mem_cons_self)).app (ih fun x hx => h x (List.mem_cons_of_mem _ hx)) (rows_hs rs)).to rfl rfl
def declP (d : Dc) : List Pc := .tok 2 (kwT d.kind).2 :: .sp 32 :: .tok 1 d.name :: (telesP d.tele ++ .sp 32 :: tk4 sCol :: .sp 32 :: (exP d.ty 0 ++ .sp 32 :: .bra :: (consP' d.cons ++ (rowsP d.rows ++ [tk4 sKet, .sp 10]))))
theorem kw_l {k : Int} (h : 1 ≤ k ∧ k ≤ 3) : (kwT k).2.toList = kwL k ∧ keyS (kwT k).2 = true := by
 rcases (show k = 1 ∨ k = 2 ∨ k = 3 by omega) with rfl | rfl | rfl
 ·exact ⟨by show sData.toList = _; rw [sData_l]; rfl, by decide +kernel⟩
 ·exact ⟨by show sRec.toList = _; rw [sRec_l]; rfl, by decide +kernel⟩
 ·exact ⟨by show sDef.toList = _; rw [sDef_l]; rfl, by decide +kernel⟩
theorem decl_pc {d : Dc} (h : Qce d = true) : PcOk (declP d) (declL d) (Qfw d) := by
 obtain ⟨kd, at0, nm, te, ty, co, ro⟩ := d
 unfold Qce at h
 simp only [Bool.and_eq_true, decide_eq_true_eq] at h
 obtain ⟨⟨⟨⟨⟨⟨⟨⟨hk, hn⟩, hty⟩, hte⟩, hco⟩, -⟩, -⟩, -⟩, hro⟩ := h
 unfold Qcv at hte hco
 rw [Bool.and_eq_true] at hte hco
 obtain ⟨k1, k2⟩ := kw_l hk
 have h1 := teles_pc te fun b hb => List.all_eq_true.1 hte.2 b hb
 have h2 := conss_pc co fun b hb => List.all_eq_true.1 hco.2 b hb
 have h3 := rows_pc ro fun b hb => List.all_eq_true.1 hro b hb
 have h4 := ex_pc (Qdw hty) 0
 have hend : PcOk [tk4 sKet, .sp 10] [125, 10] [(4, sKet)] := PcOk.mark sKet_l (by decide +kernel) (PcOk.sp (.inr rfl) .nil)
 have hhs : ∀ l : List Pc, HS l → HS (l ++ [tk4 sKet, .sp 10]) := fun l h => by
  rcases h with rfl | ⟨c, r, rfl, hc⟩
  ·exact .cons rfl
  ·exact .cons hc
 have a1 := h3.app hend (.cons rfl)
 have a2 := h2.app a1 (hhs _ (rows_hs ro))
 have a3 := h4.app (PcOk.sp (.inl rfl) (PcOk.bra a2)) (.cons rfl)
 have a4 := h1.app (PcOk.sp (.inl rfl) (PcOk.mark sCol_l (by decide +kernel) (PcOk.sp (.inl rfl) a3))) (.cons rfl)
 have hhs4 : HS (telesP te ++ .sp 32 :: tk4 sCol :: .sp 32 :: (exP ty 0 ++ .sp 32 :: .bra :: (consP' co ++ (rowsP ro ++ [tk4 sKet, .sp 10])))) := by
  rcases teles_hs te with h | ⟨c, r, h, hc⟩
  ·rw [h]; exact .cons rfl
  ·rw [h]; exact .cons hc
 have a5 := PcOk.word (k := 2) (s := (kwT kd).2) (.inr (.inl ⟨rfl, k2⟩)) (PcOk.sp (.inl rfl) (PcOk.word (name_va hn) a4 hhs4)) (.cons rfl)
 exact a5.to (by rw [k1]; simp [declL]) (by simp [Qfw]; rfl)
def declsP : List Dc → List Pc
 | [] => []
 | d :: ds => declP d ++ declsP ds
def Qdc : List Dc → List UInt8
 | [] => []
 | d :: ds => declL d ++ Qdc ds
theorem decls_pc : ∀ (ds : List Dc), (∀ d ∈ ds, Qce d = true) → PcOk (declsP ds) (Qdc ds) (Qfp ds) := by
  intro ds
  induction ds with
  | nil => intro _; exact .nil
  | cons d ds ih =>
    intro h
    have h1 := decl_pc (h d List.mem_cons_self)
    have h2 := ih fun x hx => h x (List.mem_cons_of_mem _ hx)
    refine ⟨by simp only [declsP, Qdc, Qgo, h1.by', h2.by'], by simp only [declsP, Qfp, Qhs, h1.tk, h2.tk], ?_, fun x hx => ?_⟩
    · -- a declaration ends with a blank
      have hl : ∃ p, declP d = p ++ [.sp 10] := ⟨.tok 2 (kwT d.kind).2 :: .sp 32 :: .tok 1 d.name :: (telesP d.tele ++ .sp 32 :: tk4 sCol :: .sp 32 :: (exP d.ty 0 ++ .sp 32 :: .bra :: (consP' d.cons ++ (rowsP d.rows ++ [tk4 sKet])))), by simp [declP]⟩
      obtain ⟨p, hp⟩ := hl
      have h3 := h1.ok
      simp only [declsP]
      rw [hp] at h3 ⊢
      rw [List.append_assoc]
      have h4 : okP p = true := by
        clear hp
        induction p with
        | nil => rfl
        | cons x p ihp =>
          cases p with
          | nil => rfl
          | cons y p =>
            simp only [List.cons_append, okP, Bool.and_eq_true] at h3 ⊢
            exact ⟨h3.1, ihp h3.2⟩
      exact Qhn rfl h4 h2.ok
    · simp only [declsP] at hx
      rcases List.mem_append.1 hx with hx | hx
      · exact h1.va x hx
      · exact h2.va x hx
theorem Qmq (b : Bool) (l : List (Int × ByteArray)) : (Qgw b l).length ≤ l.length + 2 := by
 unfold Qgw
 split <;> simp
theorem in_count : ∀ (m : Nat) (t : Nd), SizeOf.sizeOf t ≤ m → Qaj t false = true → (inT t).length + 2 ≤ 8 * ndT t := by
  intro m
  induction m with
  | zero => intro t h; cases t; simp at h
  | succ m ih =>
    intro t h hg
    obtain ⟨k, a, s, n, sub⟩ := t
    rcases Qjp hg with ⟨rfl, rfl⟩ | ⟨rfl, rfl, hn0, hn7⟩ | ⟨x, y, hk, rfl, hx, hy⟩
    · rw [Qhg _ _ _ _ rfl]
      simp only [ndT, ndL, List.length_cons, List.length_nil]; omega
    · rw [Qik _ _ _ _ rfl]
      simp only [ndT, ndL, List.length_cons]
      split <;> simp
    · have hsx : SizeOf.sizeOf x ≤ m := by simp at h; omega
      have hsy : SizeOf.sizeOf y ≤ m := by simp at h; omega
      have h1 := ih x hsx hx
      have h2 := ih y hsy hy
      have hb := fun (a b : Bool) => And.intro (Qmq a (inT x)) (Qmq b (inT y))
      simp only [ndT, ndL]
      rw [inT]
      split
      · have := hb (par x 1) (par y 2)
        simp only [List.length_append, List.length_cons, List.length_nil]; omega
      · split
        · have := hb (par x 1) (par y 0)
          simp only [List.length_append, List.length_cons, List.length_nil]; omega
        · have := hb (par x 0) (par y 0)
          split <;> simp only [List.length_append, List.length_cons, List.length_nil] <;> omega
theorem ex_count {t : Nd} (hg : Qaj t false = true) (lv : Int) : (exT t lv).length ≤ 8 * ndT t := by
 have h1 := in_count _ t (Nat.le_refl _) hg
 have h2 := Qmq (par t lv) (inT t)
 unfold exT; omega
theorem pats_count : ∀ (l : List Nd), (∀ x ∈ l, (patT x).length ≤ 9 * ndT x) → (Qar l).length ≤ 9 * ndL l
  | [], _ => by simp [Qar]
  | t :: ts, h => by
    have h1 := h t (by simp)
    have h2 := pats_count ts fun x hx => h x (by simp [hx])
    simp only [Qar, ndL, List.length_append]; omega
theorem pat_count : ∀ (m : Nat) (t : Nd), SizeOf.sizeOf t ≤ m → Qaj t true = true → (patT t).length ≤ 9 * ndT t := by
  intro m
  induction m with
  | zero => intro t h; cases t; simp at h
  | succ m ih =>
    intro t h hg
    obtain ⟨k, a, s, n, sub⟩ := t
    rcases Qkd hg with ⟨rfl, rfl⟩ | ⟨rfl, rfl⟩ | ⟨rfl, rfl⟩ | ⟨rfl, x, rfl, hx⟩ | ⟨rfl, hL⟩
    · simp only [patT, ndT, ndL]; simp
    · simp only [patT, ndT, ndL]; simp
    · simp only [patT, ndT, ndL]; simp
    · have := ex_count hx 2
      simp only [patT, ndT, ndL, dotT]; simp; omega
    · have := pats_count sub fun x hx => by
        refine ih x ?_ (Qge hL x hx)
        have := List.sizeOf_lt_of_mem hx
        simp at h; omega
      simp only [patT, ndT]; simp; omega
theorem Qmn {ps : List Pc} {b : List UInt8} {ts : List (Int × ByteArray)} (h : PcOk ps b ts) (hs : b.length ≤ 65535) (hn : ts.length ≤ 8192) :
  (tokA (strB b)).2.2 = 0 ∧ Qbk (strB b) = ⟨0, 0, 0⟩ ∧ Sees (Qan (strB b)) 0 (ts ++ [(5, ⟨#[]⟩)]) ∧ (Qan (strB b)).length = ts.length + 1 ∧ (tokA (strB b)).1.length = ts.length + 1 := by
 obtain ⟨rfl, rfl, ho, hv⟩ := h
 obtain ⟨h1, h2⟩ := (lex_text hv ho hs).1 hn
 have e : Qan (strB (Qbp ps)) = (tokA (strB (Qbp ps))).1 := by unfold Qan; rw [if_neg (by simp [h1])]
 have hl : (tokA (strB (Qbp ps))).1.length = (Qcb ps).length + 1 := by
  have := congrArg List.length h2
  rw [List.length_map, List.length_append] at this
  exact this
 refine ⟨h1, by unfold Qbk; rw [if_neg (by simp [h1])], ⟨[], ?_⟩, by rw [e]; exact hl, hl⟩
 rw [e, List.drop_zero, h2, List.append_nil]
theorem many_text {ps : List Pc} {b : List UInt8} {ts : List (Int × ByteArray)} (h : PcOk ps b ts) (hs : b.length ≤ 65535) (hn : 8192 < ts.length) : (tokA (strB b)).2.2 ≠ 0 := by
 obtain ⟨rfl, rfl, ho, hv⟩ := h
 exact (lex_text hv ho hs).2 hn
theorem end_sees {l : List Tk} {i : Nat} {a : Int} (h : Sees l i [(5, ⟨#[]⟩)]) : endS l ⟨i, a, 0⟩ = ⟨i, a, 0⟩ := by
 unfold endS
 rw [if_pos h.hd.1]
theorem Qlq {t : Nd} {p : Bool} (h : (Qcs t && Qaj t p) = true) : Qbj t ≤ 128 := by
 unfold Qcs at h
 simp only [Bool.and_eq_true, decide_eq_true_eq] at h
 exact h.1
theorem expr_back {t : Nd} (h : Qbt t = true) (hn : ndT t < 600) : (exprA (strB (exL t 0))).2.2 = 0 ∧ Qbv (exprA (strB (exL t 0))).1 t = true := by
 have hg := Qdw h
 have hc := ex_count hg 0
 have hb := ex_len hg 0
 obtain ⟨-, h2, h3, -, -⟩ := Qmn (ex_pc hg 0) (by omega) (by omega)
 obtain ⟨t', e, ht⟩ := Qla h (a := 0) h3 cl_end
 have hE : Qgr (strB (exL t 0)) = (t', ⟨0 + (exT t 0).length, 0, 0⟩) := by
  unfold Qgr
  rw [h2]
  exact e
 have hd := end_sees (a := 0) h3.app
 have hA : exprA (strB (exL t 0)) = (t', ((strB (exL t 0)).size : Int), 0) := by
  unfold exprA
  rw [hE]
  simp only [hd]
  rfl
 rw [hA]
 exact ⟨rfl, Qjk ht (Qjn ht (Qlq h))⟩
theorem pat_back {t : Nd} (h : patB t = true) (hn : ndT t < 600) : (patsA (strB (patL t))).2.2 = 0 ∧ ∃ x, (patsA (strB (patL t))).1 = [x] ∧ Qbv x t = true := by
  have hg := Qfg h
  have hc := pat_count _ t (Nat.le_refl _) hg
  have hb := pat_len _ t (Nat.le_refl _) hg
  obtain ⟨-, h2, h3, h4, -⟩ := Qmn (pat_pc _ t (Nat.le_refl _) hg) (by omega) (by omega)
  have e0 : Qar [t] = patT t := by simp only [Qar, List.append_nil]
  have hp : 1 ≤ (patT t).length := by
    obtain ⟨x, ts, e, -⟩ := Qho hg
    rw [e]; simp
  obtain ⟨ts', e, ht⟩ := Qmj [t] (fun x hx => by rw [List.mem_singleton] at hx; subst hx; exact h) ((Qan (strB (patL t))).length + 1) [] 0 0 (5, ⟨#[]⟩) (by rw [h4]; show 1 < _; omega) (by simp) (by rw [e0]; exact h3) (by decide) (by decide +kernel)
  have hd := end_sees (a := 0) h3.app
  rw [List.nil_append, e0] at e
  have hA : patsA (strB (patL t)) = (ts', ((strB (patL t)).size : Int), 0) := by
    unfold patsA
    rw [h2, e]
    simp only [hd]
    rfl
  rw [hA]
  cases ts' with
  | nil => simp [eNds] at ht
  | cons x xs =>
    cases xs with
    | cons y ys => simp [eNds] at ht
    | nil =>
      simp only [eNds, List.cons.injEq, and_true] at ht
      exact ⟨rfl, x, rfl, Qjk ht (Qjn ht (Qlq h))⟩
def tokN (s : ByteArray) : Int := if (tokA s).2.2 = 0 then ((tokA s).1.length : Int) else 9999
theorem file_back {ds : List Dc} (h : ∀ d ∈ ds, Qce d = true) (hs : (Qdc ds).length ≤ 65535) (hn : tokN (strB (Qdc ds)) ≤ 8192) : (Qfx (strB (Qdc ds))).2.2 = 0 ∧ (Qfx (strB (Qdc ds))).1.map eDc = ds.map eDc := by
  have hp := decls_pc ds h
  have hc : (Qfp ds).length ≤ 8192 := by
    apply Nat.le_of_not_lt
    intro hlt
    unfold tokN at hn
    rw [if_neg (many_text hp hs hlt)] at hn
    omega
  obtain ⟨-, h2, h3, h4, -⟩ := Qmn hp hs hc
  have hl : ∀ ds : List Dc, ds.length ≤ (Qfp ds).length := by
    intro ds
    induction ds with
    | nil => exact Nat.le_refl _
    | cons d ds ih =>
      simp only [Qfp, List.length_append, List.length_cons]
      have : 1 ≤ (Qfw d).length := by unfold Qfw; simp only [List.length_append, List.length_cons]; omega
      omega
  have := hl ds
  obtain ⟨ds', e, hd⟩ := file_read ds h ((Qan (strB (Qdc ds))).length + 1) [] 0 0 (by rw [h4]; omega) h3
  rw [List.nil_append] at e
  have hA : Qfx (strB (Qdc ds)) = (ds', ((strB (Qdc ds)).size : Int), 0) := by
    unfold Qfx
    rw [h2, e]
    rfl
  rw [hA]
  exact ⟨rfl, hd⟩
theorem Qmu : ∀ ds : List Dc, Qdc ds = Qeh ds
 | [] => rfl
 | d :: ds => by rw [Qdc, Qeh, Qmu ds]
theorem decl_back {d : Dc} (h : Qce d = true) (hs : (Qdc [d]).length ≤ 65535) (hn : tokN (strB (Qdc [d])) ≤ 8192) (hm : smDc d) : (Qfx (strB (Qdc [d]))).2.2 = 0 ∧ ∃ x, (Qfx (strB (Qdc [d]))).1 = [x] ∧ Qjm x d = true := by
  obtain ⟨h1, h2⟩ := file_back (ds := [d]) (fun x hx => by rw [List.mem_singleton] at hx; subst hx; exact h) hs hn
  have h3 := fileA_sm _ h1
  refine ⟨h1, ?_⟩
  generalize (Qfx (strB (Qdc [d]))).1 = l at *
  cases l with
  | nil => simp at h2
  | cons x xs =>
    cases xs with
    | cons y ys => simp at h2
    | nil =>
      simp only [List.map_cons, List.map_nil, List.cons.injEq, and_true] at h2
      exact ⟨x, rfl, decl_e (h3 x List.mem_cons_self) h2⟩
theorem tokens_p (s : ByteArray) : PCalls Tryz.prog 18 [.d (.v (.string s))] [] fun p st => p = .d (.v (.int .i64 (tokN s))) ∧ st = [] := by
 have HT := tall_p s
 unfold tokP at HT
 have HE := Hh (show tokN s = if (tokA s).2.2 = 0 then ((tokA s).1.length : Int) else 9999 from rfl)
 generalize tokN s = q at *
 generalize (tokA s).1 = l at *
 generalize (tokA s).2.1 = a at *
 generalize (tokA s).2.2 = e at *
 by_cases h0 : e = 0
 ·refine pG Tryz.func18 Tryz.ntmps18 ?_
  refine Qah (HT) ?_
  refine rT Tryz.results18 ?_
  exact ⟨by rw [HE.out, if_pos h0]; rfl, rfl⟩
 ·refine pG Tryz.func18 Tryz.ntmps18 ?_
  refine Qah (HT) ?_
  refine rT Tryz.results18 ?_
  exact ⟨by rw [HE.out, if_neg h0]; rfl, rfl⟩
theorem samex_p (t u : Nd) : PCalls Tryz.prog 14 [aggD t, aggD u] [] fun p s => p = .d (.v (.bool (Qbv t u))) ∧ s = [] := PCalls.flat trivial fun K w vs ha => by
 obtain ⟨v, v2, rfl, hv, hv2⟩ := ha.two
 obtain ⟨cs, rfl, hc⟩ := agg_nd hv
 obtain ⟨ds, rfl, hd⟩ := agg_nd hv2
 exact Qjv t u cs ds w hc hd
structure ExW (n : Nd) (s : ByteArray) (e : Int) : Prop where
 pr : PCalls Tryz.prog 13 [aggD n] [] fun p st => p = .tup [.d (.v (.string s)), .d (.v (.int .i64 e))] ∧ st = []
 rd : e = 0 → ∃ (m : Nd) (z : Int), PCalls Tryz.prog 6 [.d (.v (.string s))] [] (fun p st => p = .tup [aggD m, .d (.v (.int .i64 z)), .d (.v (.int .i64 0))] ∧ st = []) ∧ PCalls Tryz.prog 14 [aggD m, aggD n] [] fun p st => p = .d (.v (.bool true)) ∧ st = []
structure PtW (n : Nd) (s : ByteArray) (e : Int) : Prop where
 pr : PCalls Tryz.prog 15 [aggD n] [] fun p st => p = .tup [.d (.v (.string s)), .d (.v (.int .i64 e))] ∧ st = []
 rd : e = 0 → ∃ (m : Nd) (z : Int), PCalls Tryz.prog 16 [.d (.v (.string s))] [] (fun p st => p = .tup [.d (slD [m]), .d (.v (.int .i64 z)), .d (.v (.int .i64 0))] ∧ st = []) ∧ PCalls Tryz.prog 14 [aggD m, aggD n] [] fun p st => p = .d (.v (.bool true)) ∧ st = []
structure DcW (d : Dc) (s : ByteArray) (e k : Int) : Prop where
 pr : PCalls Tryz.prog 17 [aggD d] [] fun p st => p = .tup [.d (.v (.string s)), .d (.v (.int .i64 e))] ∧ st = []
 tk : PCalls Tryz.prog 18 [.d (.v (.string s))] [] fun p st => p = .d (.v (.int .i64 k)) ∧ st = []
 no : e ≠ 0 → s = ⟨#[]⟩
 rd : e = 0 → k ≤ 8192 → ∃ (m : Dc) (z : Int), PCalls Tryz.prog 19 [.d (.v (.string s))] [] (fun p st => p = .tup [.d (slD [m]), .d (.v (.int .i64 z)), .d (.v (.int .i64 0))] ∧ st = []) ∧ PCalls Tryz.prog 20 [aggD m, aggD d] [] fun p st => p = .d (.v (.bool true)) ∧ st = []
theorem ex_w {n : Nd} (h : ndT n < 600) : ∃ s e, ExW n s e := by
  have hp := pexpr_p n
  cases he : Qbt n with
  | false =>
    rw [exprR_no he] at hp
    exact ⟨_, _, hp, fun h => absurd h (by decide)⟩
  | true =>
    rw [exprR_yes he h] at hp
    obtain ⟨h1, h2⟩ := expr_back he h
    have h3 := pexprs_p (strB (exL n 0))
    rw [h1] at h3
    have h4 := samex_p (exprA (strB (exL n 0))).1 n
    rw [h2] at h4
    exact ⟨_, _, hp, fun _ => ⟨_, _, h3, h4⟩⟩
theorem pt_w {n : Nd} (h : ndT n < 600) : ∃ s e, PtW n s e := by
  have hp := ppat_p n
  cases he : patB n with
  | false =>
    rw [patR_no he] at hp
    exact ⟨_, _, hp, fun h => absurd h (by decide)⟩
  | true =>
    rw [patR_yes he h] at hp
    obtain ⟨h1, x, h2, h3⟩ := pat_back he h
    have h4 := ppats_p (strB (patL n))
    rw [h1, h2] at h4
    have h5 := samex_p x n
    rw [h3] at h5
    exact ⟨_, _, hp, fun _ => ⟨_, _, h4, h5⟩⟩
theorem sm_ty {t : Nd} (h : Qbt t = true) : Qbj t ≤ 128 := Qlq h
theorem bind_sm2 {b : Bd} (h : Qds b = true) : smBd b := by
 unfold Qds at h
 simp only [Bool.and_eq_true] at h
 exact sm_ty h.2
theorem row_sm2 {r : Rw} (h : rowB r = true) : smRw r := by
 unfold rowB at h
 simp only [Bool.and_eq_true] at h
 obtain ⟨⟨-, hp⟩, hb⟩ := h
 refine ⟨?_, fun p hx => Qlq (List.all_eq_true.1 hp p hx)⟩
 split at hb
 ·exact sm_ty hb
 ·exact Qjn (zero_e hb).symm zNd_sm
theorem decl_sm2 {d : Dc} (h : Qce d = true) : smDc d := by
 unfold Qce Qcv at h
 simp only [Bool.and_eq_true, List.all_eq_true] at h
 obtain ⟨⟨⟨⟨⟨⟨⟨⟨h1, h2⟩, h3⟩, h4⟩, h5⟩, h6⟩, h7⟩, h8⟩, h9⟩ := h
 exact ⟨sm_ty h3, fun b hb => bind_sm2 (h4.2 b hb), fun b hb => bind_sm2 (h5.2 b hb), fun r hr => row_sm2 (h9 r hr)⟩
theorem dc_w (d : Dc) : ∃ s e k, DcW d s e k := by
  have hp := pdecl_p d
  unfold fileR at hp
  cases hr : Qce d with
  | false =>
    rw [if_neg (by simp [hr])] at hp
    exact ⟨_, _, _, hp, tokens_p _, fun _ => rfl, fun h => absurd h (by decide)⟩
  | true =>
    rw [if_pos (by simp [hr])] at hp
    unfold Qfm at hp
    by_cases hl : (Qeh [d]).length ≤ 65535
    · rw [if_pos hl] at hp
      refine ⟨_, _, _, hp, tokens_p _, fun h => absurd rfl h, fun _ hk => ?_⟩
      rw [← Qmu] at hl hk ⊢
      obtain ⟨h1, x, h2, h3⟩ := decl_back hr hl hk (decl_sm2 hr)
      have h4 := file_p (strB (Qdc [d]))
      rw [h1, h2] at h4
      have h5 := sdecl5_p x d
      rw [h3] at h5
      exact ⟨_, _, h4, h5⟩
    · rw [if_neg hl] at hp
      exact ⟨_, _, _, hp, tokens_p _, fun _ => rfl, fun h => absurd h (by decide)⟩
theorem Qml (n : Nd) (d : Dc) (h : (okN6 n && Qgu d) = false) : PCalls Tryz.prog 4 [aggD n, aggD d] [] fun p s => p = .d (.v (.bool true)) ∧ s = [] := by
  have hof := of6_p n
  have hod := decl6_any d
  generalize okN6 n = b1 at *
  generalize Qgu d = b2 at *
  generalize (budT n 600).1 = u at hof
  simp only [aggD, Jg, Ji, List.map_cons, List.map_nil] at hof hod ⊢
  cases b1 with
  | false =>
    refine pG Tryz.func4 Tryz.ntmps4 ?_
    refine Jc ?_
    intro i0 hi0
    refine Jc ?_
    intro i1 hi1
    try simp only [Rh, Rg, Rf, Ja] at hi1
    refine go_ ?_
    refine Qah (hof) ?_
    refine Jd ?_
    intro i2 hi2
    try simp only [Rh, Rg, Rf, Ja] at hi2
    refine go_ ?_
    refine Qaa ?_
    refine Qlx (hod) ?_
    rintro r ⟨q, rfl, hq, ho⟩
    obtain ⟨p0, p1, p2, p3, p4, p5, p6, p7, p8, p9, p10, rfl⟩ := list11' hq
    simp only [List.all_cons, List.all_nil, Bool.and_true, Bool.and_eq_true] at ho
    refine go_ ?_
    refine Jd ?_
    intro i3 hi3
    try simp only [Rh, Rg, Rf, Ja] at hi3
    refine go_ ?_
    refine Qaa ?_
    refine Qah (Qcu) ?_
    refine rT Tryz.results4 ?_
    exact ⟨rfl, rfl⟩
  | true =>
    cases b2 with
    | true => cases h
    | false =>
      refine pG Tryz.func4 Tryz.ntmps4 ?_
      refine Jc ?_
      intro i0 hi0
      refine Jc ?_
      intro i1 hi1
      try simp only [Rh, Rg, Rf, Ja] at hi1
      refine go_ ?_
      refine Qah (hof) ?_
      refine Jd ?_
      intro i2 hi2
      try simp only [Rh, Rg, Rf, Ja] at hi2
      refine go_ ?_
      refine Qaa ?_
      refine Qlx (hod) ?_
      rintro r ⟨q, rfl, hq, ho⟩
      obtain ⟨p0, p1, p2, p3, p4, p5, p6, p7, p8, p9, p10, rfl⟩ := list11' hq
      simp only [List.all_cons, List.all_nil, Bool.and_true, Bool.and_eq_true] at ho
      refine go_ ?_
      refine Jd ?_
      intro i3 hi3
      try simp only [Rh, Rg, Rf, Ja] at hi3
      refine go_ ?_
      refine Qaa ?_
      refine Qah (Qcu) ?_
      refine rT Tryz.results4 ?_
      exact ⟨rfl, rfl⟩
theorem printBack_yes (n : Nd) (d : Dc) (hn : okN6 n = true) (hd : Qgu d = true) : PCalls Tryz.prog 4 [aggD n, aggD d] [] fun p s => p = .d (.v (.bool true)) ∧ s = [] := by
 obtain ⟨hsame, hnd⟩ := ok6_same hn
 have hof := of6_p n
 rw [hn, hsame] at hof
 have hod := decl6_ok hd
 obtain ⟨s1, e1, hE1, hE2⟩ := ex_w hnd
 obtain ⟨s2, e2, hP1, hP2⟩ := pt_w hnd
 obtain ⟨s3, e3, k3, hD1, hD2, hD3, hD4⟩ := dc_w d
 clear hsame hnd hn hd
 simp only [aggD, slD, Jg, Ji, List.map_cons, List.map_nil] at hof hod hE1 hE2 hP1 hP2 hD1 hD4 ⊢
 have HE2 := Hh hE2
 have HP2 := Hh hP2
 have HD3 := Hh hD3
 have HD4 := Hh hD4
 clear hE2 hP2 hD3 hD4
 refine pG Tryz.func4 Tryz.ntmps4 ?_
 refine Jc ?_
 intro i0 hi0
 refine Jc ?_
 intro i1 hi1
 try simp only [Rh, Rg, Rf, Ja] at hi1
 refine go_ ?_
 refine Qah (hof) ?_
 refine Jd ?_
 intro i2 hi2
 try simp only [Rh, Rg, Rf, Ja] at hi2
 refine go_ ?_
 refine Qaa ?_
 refine Qah (hod) ?_
 refine Jd ?_
 intro i3 hi3
 try simp only [Rh, Rg, Rf, Ja] at hi3
 refine go_ ?_
 refine Qaa ?_
 refine Jb (hE1) ?_
 by_cases h1 : e1 = 0
 ·obtain ⟨m1, z1, hm1, hs1⟩ := HE2.out h1
  refine go_ ?_
  refine Qah (hm1) ?_
  refine Jd ?_
  intro i4 hi4
  try simp only [Rh, Rg, Rf, Ja] at hi4
  refine go_ ?_
  refine Qaa ?_
  refine Qat (hs1) ?_
  refine Jb (hP1) ?_
  by_cases h2 : e2 = 0
  ·obtain ⟨m2, z2, hm2, hs2⟩ := HP2.out h2
   refine go_ ?_
   refine Qah (hm2) ?_
   refine Qai [(0, .a), (1, .a), (2, .a), (3, .a), (4, .a), (5, .a), (6, .a), (7, .a), (8, .a), (9, .a), (10, .a), (11, .b), (12, .a), (13, .a), (14, .a)] (by kernel_rfl) (by rfl) (by kernel_rfl) ?_
   refine go_ ?_
   refine Qby (hs2) ?_
   refine go_ ?_
   refine Jb (hD1) ?_
   by_cases h3 : e3 = 0
   ·by_cases h4 : (8192 : Int) < k3
    ·refine go_ ?_
     refine Qat (hD2) ?_
     refine Qat (Qcu) ?_
     refine rT Tryz.results4 ?_
     exact ⟨rfl, rfl⟩
    ·obtain ⟨m3, z3, hm3, hs3⟩ := HD4.out h3 (by omega)
     refine go_ ?_
     refine Qat (hD2) ?_
     refine Qah (hm3) ?_
     refine Qai [(0, .a), (1, .a), (2, .a), (3, .a), (4, .a), (5, .a), (6, .a), (7, .a), (8, .a), (9, .a), (10, .a), (11, .b), (12, .a), (13, .a), (14, .a), (15, .a), (16, .a), (17, .a)] (by kernel_rfl) (by rfl) (by kernel_rfl) ?_
     refine go_ ?_
     refine Qby (hs3) ?_
     refine go_ ?_
     refine Qby (Qcu) ?_
     refine go_ ?_
     refine rT Tryz.results4 ?_
     exact ⟨rfl, rfl⟩
   ·have hs3 := HD3.out h3
    subst hs3
    refine go_ ?_
    refine Qat (Qcu) ?_
    refine rT Tryz.results4 ?_
    exact ⟨rfl, rfl⟩
  ·refine go_ ?_
   refine Jb (hD1) ?_
   by_cases h3 : e3 = 0
   ·by_cases h4 : (8192 : Int) < k3
    ·refine go_ ?_
     refine Qat (hD2) ?_
     refine Qat (Qcu) ?_
     refine rT Tryz.results4 ?_
     exact ⟨rfl, rfl⟩
    ·obtain ⟨m3, z3, hm3, hs3⟩ := HD4.out h3 (by omega)
     refine go_ ?_
     refine Qat (hD2) ?_
     refine Qah (hm3) ?_
     refine Qai [(0, .a), (1, .a), (2, .a), (3, .a), (4, .a), (5, .a), (6, .a), (7, .a), (8, .a), (9, .a), (10, .a), (11, .b), (12, .a), (13, .a), (14, .a), (15, .a), (16, .a), (17, .a)] (by kernel_rfl) (by rfl) (by kernel_rfl) ?_
     refine go_ ?_
     refine Qby (hs3) ?_
     refine go_ ?_
     refine Qby (Qcu) ?_
     refine go_ ?_
     refine rT Tryz.results4 ?_
     exact ⟨rfl, rfl⟩
   ·have hs3 := HD3.out h3
    subst hs3
    refine go_ ?_
    refine Qat (Qcu) ?_
    refine rT Tryz.results4 ?_
    exact ⟨rfl, rfl⟩
 ·refine go_ ?_
  refine Jb (hP1) ?_
  by_cases h2 : e2 = 0
  ·obtain ⟨m2, z2, hm2, hs2⟩ := HP2.out h2
   refine go_ ?_
   refine Qah (hm2) ?_
   refine Qai [(0, .a), (1, .a), (2, .a), (3, .a), (4, .a), (5, .a), (6, .a), (7, .a), (8, .a), (9, .a), (10, .a), (11, .b), (12, .a), (13, .a), (14, .a)] (by kernel_rfl) (by rfl) (by kernel_rfl) ?_
   refine go_ ?_
   refine Qby (hs2) ?_
   refine go_ ?_
   refine Jb (hD1) ?_
   by_cases h3 : e3 = 0
   ·by_cases h4 : (8192 : Int) < k3
    ·refine go_ ?_
     refine Qat (hD2) ?_
     refine Qat (Qcu) ?_
     refine rT Tryz.results4 ?_
     exact ⟨rfl, rfl⟩
    ·obtain ⟨m3, z3, hm3, hs3⟩ := HD4.out h3 (by omega)
     refine go_ ?_
     refine Qat (hD2) ?_
     refine Qah (hm3) ?_
     refine Qai [(0, .a), (1, .a), (2, .a), (3, .a), (4, .a), (5, .a), (6, .a), (7, .a), (8, .a), (9, .a), (10, .a), (11, .b), (12, .a), (13, .a), (14, .a), (15, .a), (16, .a), (17, .a)] (by kernel_rfl) (by rfl) (by kernel_rfl) ?_
     refine go_ ?_
     refine Qby (hs3) ?_
     refine go_ ?_
     refine Qby (Qcu) ?_
     refine go_ ?_
     refine rT Tryz.results4 ?_
     exact ⟨rfl, rfl⟩
   ·have hs3 := HD3.out h3
    subst hs3
    refine go_ ?_
    refine Qat (Qcu) ?_
    refine rT Tryz.results4 ?_
    exact ⟨rfl, rfl⟩
  ·refine go_ ?_
   refine Jb (hD1) ?_
   by_cases h3 : e3 = 0
   ·by_cases h4 : (8192 : Int) < k3
    ·refine go_ ?_
     refine Qat (hD2) ?_
     refine Qat (Qcu) ?_
     refine rT Tryz.results4 ?_
     exact ⟨rfl, rfl⟩
    ·obtain ⟨m3, z3, hm3, hs3⟩ := HD4.out h3 (by omega)
     refine go_ ?_
     refine Qat (hD2) ?_
     refine Qah (hm3) ?_
     refine Qai [(0, .a), (1, .a), (2, .a), (3, .a), (4, .a), (5, .a), (6, .a), (7, .a), (8, .a), (9, .a), (10, .a), (11, .b), (12, .a), (13, .a), (14, .a), (15, .a), (16, .a), (17, .a)] (by kernel_rfl) (by rfl) (by kernel_rfl) ?_
     refine go_ ?_
     refine Qby (hs3) ?_
     refine go_ ?_
     refine Qby (Qcu) ?_
     refine go_ ?_
     refine rT Tryz.results4 ?_
     exact ⟨rfl, rfl⟩
   ·have hs3 := HD3.out h3
    subst hs3
    refine go_ ?_
    refine Qat (Qcu) ?_
    refine rT Tryz.results4 ?_
    exact ⟨rfl, rfl⟩
theorem printBack_p (n : Nd) (d : Dc) : PCalls Tryz.prog 4 [aggD n, aggD d] [] fun p s => p = .d (.v (.bool true)) ∧ s = [] := by
  cases h1 : okN6 n with
  | false => exact Qml n d (by rw [h1]; rfl)
  | true =>
    cases h2 : Qgu d with
    | false => exact Qml n d (by rw [h1, h2]; rfl)
    | true => exact printBack_yes n d h1 h2
theorem printBack_walk (t : Nd) (cs : List Value) (d : Dc) (ds : List Value) (w : World) (ht : NdC w t cs) (hd : Rep (fun _ => True) w d ds) : Calls Tryz.prog 4 #[.agg cs.toArray, .agg ds.toArray] w fun e w' => e = .returned (.bool true) ∧ Below w.heap.size w w' :=
 ((printBack_p t d).mono fun p s h => h.1).top (relVs_cons (rel_rep (K := K0 w) (fun b o v _ h => ⟨v, h⟩) (NdC.toR t cs ht)) (relVs_cons (rel_rep (K := K0 w) (fun b o v _ h => ⟨v, h⟩) hd) (relVs_nil _ _)))
end Go.Proofs.YtahhgpafjiljfaaGreat

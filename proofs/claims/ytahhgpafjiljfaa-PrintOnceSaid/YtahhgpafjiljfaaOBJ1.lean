import Derived.Test.YtahhgpafjiljfaaOBJ
import Derived.Test.YtahhgpafjiljfaaOBZ1
import Derived.Test.YtahhgpafjiljfaaOBW
import Derived.Test.YtahhgpafjiljfaaOBM
set_option linter.unusedSimpArgs false
set_option linter.unusedVariables false
set_option maxHeartbeats 16000000
set_option maxRecDepth 100000
namespace Go.Proofs.Ytahhgpafjiljfaa
open Go.RowKit
def tk4 (s : ByteArray) : Pc := .tok 4 s
def Qff (b : Bool) (l : List Pc) : List Pc := if b then tk4 sPar :: (l ++ [tk4 sRap]) else l
def inP : Nd → List Pc
  | .mk k _ s _ [x, y] =>
    if k = 5 then Qff (par x 1) (inP x) ++ .sp 32 :: Qff (par y 2) (inP y)
    else if k = 3 ∧ s = ⟨#[95]⟩ then Qff (par x 1) (inP x) ++ .sp 32 :: tk4 sArr :: .sp 32 :: Qff (par y 0) (inP y)
    else (if k = 4 then [tk4 sLam, .sp 32] else []) ++ (tk4 sPar :: .tok 1 s :: .sp 32 :: tk4 sCol :: .sp 32 :: (Qff (par x 0) (inP x) ++ tk4 sRap :: .sp 32 :: tk4 sArr :: .sp 32 :: Qff (par y 0) (inP y)))
  | .mk k _ s n _ => if k = 1 then [.tok 1 s] else .tok 2 sSet :: (if 0 < n then [.sp 32, .tok 3 (numS n)] else [])
def exP (t : Nd) (lv : Int) : List Pc := Qff (par t lv) (inP t)
theorem Qfa (k : Int) (s : ByteArray) (l : List Pc) : Qbp (.tok k s :: l) = s.toList ++ Qbp l := rfl
theorem Qia (b : UInt8) (l : List Pc) : Qbp (.sp b :: l) = b :: Qbp l := rfl
theorem Qhi : Qbp [] = [] := rfl
theorem Qkw (k : Int) (s : ByteArray) (l : List Pc) : Qca (.tok k s :: l) = (k, s) :: Qca l := rfl
theorem Qkv (b : UInt8) (l : List Pc) : Qca (.sp b :: l) = Qca l := rfl
theorem toksP_nil : Qca [] = [] := rfl
theorem sPar_l : sPar.toList = [40] := by unfold sPar; rw [ByteArray.toList_eq]
theorem sRap_l : sRap.toList = [41] := by unfold sRap; rw [ByteArray.toList_eq]
theorem sCol_l : sCol.toList = [58] := by unfold sCol; rw [ByteArray.toList_eq]
theorem sArr_l : sArr.toList = [45, 62] := by unfold sArr; rw [ByteArray.toList_eq]
theorem sLam_l : sLam.toList = [92] := by unfold sLam; rw [ByteArray.toList_eq]
theorem sSet_l : sSet.toList = [83, 101, 116] := by unfold sSet; rw [ByteArray.toList_eq]
theorem sDot_l : sDot.toList = [46] := by unfold sDot; rw [ByteArray.toList_eq]
theorem sEq_l : sEq.toList = [61] := by unfold sEq; rw [ByteArray.toList_eq]
theorem sSem_l : sSem.toList = [59] := by unfold sSem; rw [ByteArray.toList_eq]
theorem sKet_l : sKet.toList = [125] := by unfold sKet; rw [ByteArray.toList_eq]
theorem sData_l : sData.toList = [100, 97, 116, 97] := by unfold sData; rw [ByteArray.toList_eq]
theorem sRec_l : sRec.toList = [114, 101, 99, 111, 114, 100] := by unfold sRec; rw [ByteArray.toList_eq]
theorem sDef_l : sDef.toList = [100, 101, 102] := by unfold sDef; rw [ByteArray.toList_eq]
theorem wrapP_b (b : Bool) (l : List Pc) : Qbp (Qff b l) = Qgr b (Qbp l) := by
 unfold Qff Qgr tk4
 cases b
 ·rfl
 ·simp only [if_true, Qfa, Qge, Qhi, sPar_l, sRap_l, List.append_nil, List.append_assoc]
theorem wrapP_t (b : Bool) (l : List Pc) : Qca (Qff b l) = Qhn b (Qca l) := by
 unfold Qff Qhn tk4
 cases b
 ·rfl
 ·simp only [if_true, Qkw, Qhe, toksP_nil, List.cons_append, List.nil_append]
theorem inP_2 (k a n : Int) (s : ByteArray) (x y : Nd) : inP (.mk k a s n [x, y]) = if k = 5 then exP x 1 ++ .sp 32 :: exP y 2
  else if k = 3 ∧ s = ⟨#[95]⟩ then exP x 1 ++ .sp 32 :: tk4 sArr :: .sp 32 :: exP y 0
  else (if k = 4 then [tk4 sLam, .sp 32] else []) ++ (tk4 sPar :: .tok 1 s :: .sp 32 :: tk4 sCol :: .sp 32 :: (exP x 0 ++ tk4 sRap :: .sp 32 :: tk4 sArr :: .sp 32 :: exP y 0)) := by
 rw [inP]; rfl
theorem inP_0 (k a n : Int) (s : ByteArray) : inP (.mk k a s n []) = if k = 1 then [.tok 1 s] else .tok 2 sSet :: (if 0 < n then [.sp 32, .tok 3 (numS n)] else []) := by
 rw [inP]
 intros; simp_all
theorem ex_pieces : ∀ (m : Nat) (t : Nd), SizeOf.sizeOf t ≤ m → Qak t false = true → Qbp (inP t) = inL t ∧ Qca (inP t) = inT t ∧ okP (inP t) = true ∧ (∀ p ∈ inP t, p.valid) := by
  intro m
  induction m with
  | zero => intro t h; cases t; simp at h
  | succ m ih =>
    intro t hm hg
    obtain ⟨k, a, s, n, sub⟩ := t
    have hv4 : ∀ x : ByteArray, markS x = true → (tk4 x).valid := fun x h => .inr (.inr (.inr ⟨rfl, h⟩))
    have hvs : (Pc.sp 32).valid := .inl rfl
    have m1 := hv4 sPar (by decide +kernel)
    have m2 := hv4 sRap (by decide +kernel)
    have m3 := hv4 sCol (by decide +kernel)
    have m4 := hv4 sArr (by decide +kernel)
    have m5 := hv4 sLam (by decide +kernel)
    rcases Qgx hg with ⟨rfl, rfl, hr, rfl⟩ | ⟨rfl, rfl, hn0, hn7, rfl⟩ | ⟨x, y, rfl, hx, hy, rfl, hk⟩
    · rw [inP_0, if_pos rfl, inL_name _ _ _ _ rfl, Qht _ _ _ _ rfl]
      refine ⟨by simp [Qfa, Qhi], rfl, rfl, ?_⟩
      intro p hp
      rw [List.mem_singleton] at hp
      subst hp
      exact .inl ⟨rfl, .inr hr⟩
    · rw [inP_0, if_neg (by decide), inL_set _ _ _ _ rfl, Qiw _ _ _ _ rfl]
      have k1 : (Pc.tok 2 sSet).valid := .inr (.inl ⟨rfl, by decide +kernel⟩)
      by_cases hp : 0 < n
      · rw [if_pos hp, if_pos hp, if_pos hp]
        refine ⟨by simp only [Qfa, Qia, Qhi, sSet_l, List.append_nil, List.cons_append, List.nil_append], rfl, rfl, ?_⟩
        intro p hq
        simp only [List.mem_cons, List.not_mem_nil, or_false] at hq
        rcases hq with rfl | rfl | rfl
        · exact k1
        · exact hvs
        · obtain ⟨q, rfl⟩ := Int.eq_ofNat_of_zero_le hn0
          exact .inr (.inr (.inl ⟨rfl, q, by omega, by omega, rfl⟩))
      · rw [if_neg hp, if_neg hp, if_neg hp]
        refine ⟨by simp only [Qfa, Qhi, sSet_l, List.append_nil], rfl, rfl, ?_⟩
        intro p hq
        rw [List.mem_singleton] at hq
        subst hq
        exact k1
    · simp only [Nd.mk.sizeOf_spec, List.cons.sizeOf_spec] at hm
      obtain ⟨x1, x2, x3, x4⟩ := ih x (by omega) hx
      obtain ⟨y1, y2, y3, y4⟩ := ih y (by omega) hy
      have wb : ∀ (u : Nd) (lv : Int), Qbp (inP u) = inL u → Qbp (exP u lv) = exL u lv := fun u lv h => by unfold exP exL; rw [wrapP_b, h]
      have wt : ∀ (u : Nd) (lv : Int), Qca (inP u) = inT u → Qca (exP u lv) = exT u lv := fun u lv h => by unfold exP exT; rw [wrapP_t, h]
      have wo : ∀ (u : Nd) (lv : Int), okP (inP u) = true → okP (exP u lv) = true := fun u lv h => by
        unfold exP Qff
        split
        · exact Qdo rfl (okP_end rfl h)
        · exact h
      have wv : ∀ (u : Nd) (lv : Int), (∀ p ∈ inP u, p.valid) → ∀ p ∈ exP u lv, p.valid := fun u lv h p hp => by
        unfold exP Qff at hp
        split at hp
        · simp only [List.mem_cons, List.mem_append, List.not_mem_nil, or_false] at hp
          rcases hp with rfl | hp | rfl
          · exact m1
          · exact h p hp
          · exact m2
        · exact h p hp
      have tail : ∀ nm : ByteArray, (nm = ⟨#[95]⟩ ∨ Qaj nm = true) → Qbp (tk4 sPar :: .tok 1 nm :: .sp 32 :: tk4 sCol :: .sp 32 :: (exP x 0 ++ tk4 sRap :: .sp 32 :: tk4 sArr :: .sp 32 :: exP y 0)) = binL nm x y ∧ Qca (tk4 sPar :: .tok 1 nm :: .sp 32 :: tk4 sCol :: .sp 32 :: (exP x 0 ++ tk4 sRap :: .sp 32 :: tk4 sArr :: .sp 32 :: exP y 0)) = binT nm x y ∧ okP (tk4 sPar :: .tok 1 nm :: .sp 32 :: tk4 sCol :: .sp 32 :: (exP x 0 ++ tk4 sRap :: .sp 32 :: tk4 sArr :: .sp 32 :: exP y 0)) = true ∧ ∀ p ∈ (tk4 sPar :: .tok 1 nm :: .sp 32 :: tk4 sCol :: .sp 32 :: (exP x 0 ++ tk4 sRap :: .sp 32 :: tk4 sArr :: .sp 32 :: exP y 0)), p.valid := by
        intro nm hnm
        refine ⟨?_, ?_, ?_, ?_⟩
        · unfold tk4 binL
          simp only [Qfa, Qia, Qge, wb x 0 x1, wb y 0 y1, sPar_l, sRap_l, sCol_l, sArr_l, List.append_assoc, List.cons_append, List.nil_append]
        · unfold tk4 binT
          simp only [Qkw, Qkv, Qhe, wt x 0 x2, wt y 0 y2, List.append_assoc, List.cons_append, List.nil_append]
        · have h1 : okP (tk4 sRap :: .sp 32 :: tk4 sArr :: .sp 32 :: exP y 0) = true := Qdo rfl (Qdo rfl (Qdo rfl (Qdo rfl (wo y 0 y3))))
          have h2 : okP (exP x 0 ++ tk4 sRap :: .sp 32 :: tk4 sArr :: .sp 32 :: exP y 0) = true := Qha rfl (wo x 0 x3) (okP_tl h1)
          have h3 : okP (.sp 32 :: tk4 sCol :: .sp 32 :: (exP x 0 ++ tk4 sRap :: .sp 32 :: tk4 sArr :: .sp 32 :: exP y 0)) = true := Qdo rfl (Qdo rfl (Qdo rfl h2))
          exact Qdo rfl (Qha (a := [.tok 1 nm]) rfl rfl (okP_tl h3))
        · intro p hp
          simp only [List.mem_cons, List.mem_append] at hp
          rcases hp with rfl | rfl | rfl | rfl | rfl | hp | rfl | rfl | rfl | rfl | hp
          · exact m1
          · exact .inl ⟨rfl, hnm⟩
          · exact hvs
          · exact m3
          · exact hvs
          · exact wv x 0 x4 p hp
          · exact m2
          · exact hvs
          · exact m4
          · exact hvs
          · exact wv y 0 y4 p hp
      rw [inP_2]
      rcases hk with ⟨rfl, hsn⟩ | ⟨rfl, hsn⟩ | ⟨rfl, rfl⟩
      · by_cases h9 : s = ⟨#[95]⟩
        · rw [if_neg (by decide), if_pos ⟨rfl, h9⟩, Qjh _ _ _ _ _ _ rfl h9, Qji _ _ _ _ _ _ rfl h9]
          refine ⟨?_, ?_, ?_, ?_⟩
          · unfold tk4
            simp only [Qfa, Qia, Qge, wb x 1 x1, wb y 0 y1, sArr_l, List.append_assoc, List.cons_append, List.nil_append]
          · unfold tk4
            simp only [Qkw, Qkv, Qhe, wt x 1 x2, wt y 0 y2, List.append_assoc, List.cons_append, List.nil_append]
          · exact Qha rfl (wo x 1 x3) (Qdo rfl (Qdo rfl (wo y 0 y3)))
          · intro p hp
            simp only [List.mem_cons, List.mem_append] at hp
            rcases hp with hp | rfl | rfl | rfl | hp
            · exact wv x 1 x4 p hp
            · exact hvs
            · exact m4
            · exact hvs
            · exact wv y 0 y4 p hp
        · rw [if_neg (by decide), if_neg (fun h => h9 h.2), if_neg (by decide), List.nil_append, inL_pi _ _ _ _ _ _ rfl h9, inT_pi _ _ _ _ _ _ rfl h9]
          exact tail s hsn
      · rw [if_neg (by decide), if_neg (fun h => by cases h.1), if_pos rfl, inL_lam _ _ _ _ _ _ rfl, inT_lam _ _ _ _ _ _ rfl]
        obtain ⟨t1, t2, t3, t4⟩ := tail s hsn
        refine ⟨?_, ?_, ?_, ?_⟩
        · rw [List.cons_append, List.cons_append, List.nil_append]
          unfold tk4 at t1 ⊢
          rw [Qfa, Qia, t1, sLam_l]; rfl
        · rw [List.cons_append, List.cons_append, List.nil_append]
          unfold tk4 at t2 ⊢
          rw [Qkw, Qkv, t2]
        · exact Qdo rfl (Qdo rfl t3)
        · intro p hp
          rw [List.cons_append, List.cons_append, List.nil_append] at hp
          rcases List.mem_cons.1 hp with rfl | hp
          · exact m5
          · rcases List.mem_cons.1 hp with rfl | hp
            · exact hvs
            · exact t4 p hp
      · rw [if_pos rfl, inL_app _ _ _ _ _ _ rfl, Qiv _ _ _ _ _ _ rfl]
        refine ⟨?_, ?_, ?_, ?_⟩
        · simp only [Qia, Qge, wb x 1 x1, wb y 2 y1, List.append_assoc, List.cons_append, List.nil_append]
        · simp only [Qkv, Qhe, wt x 1 x2, wt y 2 y2]
        · exact Qha rfl (wo x 1 x3) (wo y 2 y3)
        · intro p hp
          simp only [List.mem_cons, List.mem_append] at hp
          rcases hp with hp | rfl | hp
          · exact wv x 1 x4 p hp
          · exact hvs
          · exact wv y 2 y4 p hp
structure PcOk (ps : List Pc) (b : List UInt8) (ts : List (Int × ByteArray)) : Prop where
 by' : Qbp ps = b
 tk : Qca ps = ts
 ok : okP ps = true
 va : ∀ p ∈ ps, p.valid
theorem ex_pc {t : Nd} (hg : Qak t false = true) (lv : Int) : PcOk (exP t lv) (exL t lv) (exT t lv) := by
 obtain ⟨h1, h2, h3, h4⟩ := ex_pieces _ t (Nat.le_refl _) hg
 refine ⟨by unfold exP exL; rw [wrapP_b, h1], by unfold exP exT; rw [wrapP_t, h2], ?_, ?_⟩
 ·unfold exP Qff
  split
  ·exact Qdo rfl (okP_end rfl h3)
  ·exact h3
 ·intro p hp
  unfold exP Qff at hp
  split at hp
  ·simp only [List.mem_cons, List.mem_append, List.not_mem_nil, or_false] at hp
   rcases hp with rfl | hp | rfl
   ·exact .inr (.inr (.inr ⟨rfl, by decide +kernel⟩))
   ·exact h4 p hp
   ·exact .inr (.inr (.inr ⟨rfl, by decide +kernel⟩))
  ·exact h4 p hp
def HS (l : List Pc) : Prop := l = [] ∨ ∃ c r, l = c :: r ∧ c.safe = true
theorem HS.nil : HS [] := .inl rfl
theorem HS.cons {c : Pc} {r : List Pc} (h : c.safe = true) : HS (c :: r) := .inr ⟨c, r, rfl, h⟩
theorem okP_app {a b : List Pc} (ha : okP a = true) (hb : okP b = true) (h : HS b) : okP (a ++ b) = true := by
 rcases h with rfl | ⟨c, r, rfl, hc⟩
 ·rw [List.append_nil]; exact ha
 ·exact Qha hc ha (okP_tl hb)
theorem PcOk.nil : PcOk [] [] [] := ⟨rfl, rfl, rfl, fun _ h => by cases h⟩
theorem PcOk.app {p q : List Pc} {b c : List UInt8} {t u : List (Int × ByteArray)} (h1 : PcOk p b t) (h2 : PcOk q c u) (h : HS q) : PcOk (p ++ q) (b ++ c) (t ++ u) :=
 ⟨by rw [Qge, h1.by', h2.by'], by rw [Qhe, h1.tk, h2.tk], okP_app h1.ok h2.ok h, fun x hx => by
  rcases List.mem_append.1 hx with hx | hx
  ·exact h1.va x hx
  ·exact h2.va x hx⟩
theorem PcOk.safe {p : Pc} {q : List Pc} {c : List UInt8} {u : List (Int × ByteArray)} (hv : p.valid) (hs : p.safe = true) (h2 : PcOk q c u) : PcOk (p :: q) (p.bytes ++ c) (p.tk ++ u) :=
 ⟨by rw [Qlp, h2.by'], by rw [Qit, h2.tk], Qdo hs h2.ok, fun x hx => by
  rcases List.mem_cons.1 hx with rfl | hx
  ·exact hv
  ·exact h2.va x hx⟩
theorem PcOk.mark {s : ByteArray} {m : List UInt8} (hm : s.toList = m) (h : markS s = true) {q : List Pc} {c : List UInt8} {u : List (Int × ByteArray)} (h2 : PcOk q c u) : PcOk (tk4 s :: q) (m ++ c) ((4, s) :: u) := by
 have h0 : PcOk (.tok 4 s :: q) (s.toList ++ c) ((4, s) :: u) := PcOk.safe (p := .tok 4 s) (.inr (.inr (.inr ⟨rfl, h⟩))) rfl h2
 rw [hm] at h0
 exact h0
theorem PcOk.sp {b : UInt8} (hb : b = 32 ∨ b = 10) {q : List Pc} {c : List UInt8} {u : List (Int × ByteArray)} (h2 : PcOk q c u) : PcOk (.sp b :: q) (b :: c) u := PcOk.safe (p := .sp b) hb rfl h2
theorem PcOk.bra {q : List Pc} {c : List UInt8} {u : List (Int × ByteArray)} (h2 : PcOk q c u) : PcOk (.bra :: q) (123 :: 10 :: c) ((4, sBra) :: u) := PcOk.safe (p := .bra) trivial rfl h2
theorem PcOk.word {k : Int} {s : ByteArray} (hv : (Pc.tok k s).valid) {q : List Pc} {c : List UInt8} {u : List (Int × ByteArray)} (h2 : PcOk q c u) (h : HS q) : PcOk (.tok k s :: q) (s.toList ++ c) ((k, s) :: u) := by
 have h1 : PcOk [.tok k s] s.toList [(k, s)] := ⟨by rw [Qfa, Qhi, List.append_nil], rfl, rfl, fun x hx => by rw [List.mem_singleton] at hx; subst hx; exact hv⟩
 exact h1.app h2 h
theorem PcOk.to {p : List Pc} {b c : List UInt8} {t u : List (Int × ByteArray)} (h : PcOk p b t) (e1 : b = c) (e2 : t = u) : PcOk p c u := by subst e1; subst e2; exact h
theorem name_va {s : ByteArray} (h : Qaj s = true) : (Pc.tok 1 s).valid := .inl ⟨rfl, .inr h⟩
def dotP : List Nd → List Pc
 | [x] => exP x 2
 | _ => []
mutual
def patP : Nd → List Pc
 | .mk k _ s _ sub => if k = 6 then [.tok 1 s] else if k = 7 then [.tok 1 ⟨#[95]⟩] else if k = 9 then [tk4 sPar, tk4 sRap] else if k = 10 then tk4 sDot :: dotP sub else tk4 sPar :: .tok 1 s :: (patsP sub ++ [tk4 sRap])
def patsP : List Nd → List Pc
 | [] => []
 | t :: ts => .sp 32 :: (patP t ++ patsP ts)
end
theorem patsP_hs (ts : List Nd) : HS (patsP ts) := by
 cases ts with
 | nil => exact .nil
 | cons t ts => simp only [patsP]; exact .cons rfl
theorem low_l : (⟨#[95]⟩ : ByteArray).toList = [95] := by rw [ByteArray.toList_eq]
theorem pat_pc : ∀ (m : Nat) (t : Nd), SizeOf.sizeOf t ≤ m → Qak t true = true → PcOk (patP t) (patL t) (patT t) := by
  intro m
  induction m with
  | zero => intro t h; cases t; simp at h
  | succ m ih =>
    intro t hm hg
    obtain ⟨k, a0, s, n0, sub⟩ := t
    obtain ⟨rfl, h⟩ := Qir hg
    rcases h with ⟨rfl, rfl, hr⟩ | ⟨rfl, rfl, rfl⟩ | ⟨rfl, rfl, rfl⟩ | ⟨rfl, rfl, x, rfl, hx⟩ | ⟨rfl, hr, hne, hL⟩
    · have e1 : patP (.mk 6 a0 s 0 []) = [.tok 1 s] := by simp [patP]
      rw [e1]
      exact (PcOk.word (name_va hr) .nil .nil).to (by simp [patL]) (by simp [patT])
    · have e1 : patP (.mk 7 a0 ⟨#[]⟩ 0 []) = [.tok 1 ⟨#[95]⟩] := by simp [patP]
      rw [e1]
      exact (PcOk.word (k := 1) (.inl ⟨rfl, .inl rfl⟩) .nil .nil).to (by rw [low_l]; simp [patL]) (by simp [patT])
    · have e1 : patP (.mk 9 a0 ⟨#[]⟩ 0 []) = [tk4 sPar, tk4 sRap] := by simp [patP]
      rw [e1]
      exact (PcOk.mark sPar_l (by decide +kernel) (PcOk.mark sRap_l (by decide +kernel) .nil)).to (by simp [patL]) (by simp [patT])
    · have e1 : patP (.mk 10 a0 ⟨#[]⟩ 0 [x]) = tk4 sDot :: exP x 2 := by simp [patP, dotP]
      rw [e1]
      exact (PcOk.mark sDot_l (by decide +kernel) (ex_pc hx 2)).to (by simp [patL, dotL]) (by simp [patT, dotT])
    · have e1 : patP (.mk 8 a0 s 0 sub) = tk4 sPar :: .tok 1 s :: (patsP sub ++ [tk4 sRap]) := by simp [patP]
      rw [e1]
      simp only [Nd.mk.sizeOf_spec] at hm
      have key : ∀ ts : List Nd, (∀ t ∈ ts, t ∈ sub) → PcOk (patsP ts) (Qdy ts) (Qaq ts) := by
        intro ts
        induction ts with
        | nil => intro _; simp only [patsP, Qdy, Qaq]; exact .nil
        | cons t ts iht =>
          intro hts
          simp only [patsP, Qdy, Qaq]
          have h1 := ih t (by have := List.sizeOf_lt_of_mem (hts t List.mem_cons_self); omega) (Qid hL t (hts t List.mem_cons_self))
          have h2 := iht fun x hx => hts x (List.mem_cons_of_mem _ hx)
          exact (PcOk.sp (.inl rfl) (h1.app h2 (patsP_hs ts))).to (by simp) rfl
      have h3 := key sub fun _ h => h
      have h4 : PcOk (patsP sub ++ [tk4 sRap]) (Qdy sub ++ [41]) (Qaq sub ++ [(4, sRap)]) := h3.app (PcOk.mark sRap_l (by decide +kernel) .nil) (.cons rfl)
      have hhs : HS (patsP sub ++ [tk4 sRap]) := by
        rcases patsP_hs sub with h | ⟨c, r, h, hc⟩
        · rw [h]; exact .cons rfl
        · rw [h]; exact .cons hc
      exact (PcOk.mark sPar_l (by decide +kernel) (PcOk.word (name_va hr) h4 hhs)).to (by simp [patL]) (by simp [patT])
def bdP (b : Bd) : List Pc := .tok 1 b.name :: .sp 32 :: tk4 sCol :: .sp 32 :: exP b.ty 0
theorem bd_pc {b : Bd} (h : Qcp b = true) : PcOk (bdP b) (bdL b) (bdT b) := by
 unfold Qcp at h
 rw [Bool.and_eq_true] at h
 unfold bdP
 exact (PcOk.word (name_va h.1) (PcOk.sp (.inl rfl) (PcOk.mark sCol_l (by decide +kernel) (PcOk.sp (.inl rfl) (ex_pc (Qfc h.2) 0)))) (.cons rfl)).to (by simp [bdL]) rfl
def telesP : List Bd → List Pc
 | [] => []
 | b :: bs => .sp 32 :: tk4 sPar :: (bdP b ++ tk4 sRap :: telesP bs)
def consP' : List Bd → List Pc
 | [] => []
 | b :: bs => .sp 32 :: .sp 32 :: (bdP b ++ tk4 sSem :: .sp 10 :: consP' bs)
def patsWP : List Nd → List Pc
 | [] => []
 | t :: ts => patP t ++ .sp 32 :: patsWP ts
def rowP (r : Rw) : List Pc := .sp 32 :: .sp 32 :: (patsWP r.pats ++ ((if r.has then tk4 sEq :: .sp 32 :: exP r.body 0 else []) ++ [tk4 sSem, .sp 10]))
def rowsP : List Rw → List Pc
 | [] => []
 | r :: rs => rowP r ++ rowsP rs
theorem teles_hs (bs : List Bd) : HS (telesP bs) := by cases bs with
 | nil => exact .nil
 | cons b bs => exact .cons rfl
theorem rows_hs (rs : List Rw) : HS (rowsP rs) := by cases rs with
 | nil => exact .nil
 | cons b bs => exact .cons rfl
theorem teles_pc : ∀ (bs : List Bd), (∀ b ∈ bs, Qcp b = true) → PcOk (telesP bs) (Qbv bs) (Qcf bs) := by
  intro bs
  induction bs with
  | nil => intro _; exact .nil
  | cons b bs ih =>
    intro h
    have h1 := bd_pc (h b List.mem_cons_self)
    have h2 := ih fun x hx => h x (List.mem_cons_of_mem _ hx)
    exact (PcOk.sp (.inl rfl) (PcOk.mark sPar_l (by decide +kernel) (h1.app (PcOk.mark sRap_l (by decide +kernel) h2) (.cons rfl)))).to (by simp [Qbv]) (by simp [Qcf])
theorem conss_pc : ∀ (bs : List Bd), (∀ b ∈ bs, Qcp b = true) → PcOk (consP' bs) (Qcv bs) (Qdk bs) := by
  intro bs
  induction bs with
  | nil => intro _; exact .nil
  | cons b bs ih =>
    intro h
    have h1 := bd_pc (h b List.mem_cons_self)
    have h2 := ih fun x hx => h x (List.mem_cons_of_mem _ hx)
    exact (PcOk.sp (.inl rfl) (PcOk.sp (.inl rfl) (h1.app (PcOk.mark sSem_l (by decide +kernel) (PcOk.sp (.inr rfl) h2)) (.cons rfl)))).to (by simp [Qcv]) (by simp [Qdk])
theorem patsW_pc : ∀ (ts : List Nd), (∀ t ∈ ts, Qak t true = true) → PcOk (patsWP ts) (Qef ts) (Qaq ts) := by
  intro ts
  induction ts with
  | nil => intro _; simp only [patsWP, Qef, Qaq]; exact .nil
  | cons t ts ih =>
    intro h
    have h1 := pat_pc _ t (Nat.le_refl _) (h t List.mem_cons_self)
    have h2 := ih fun x hx => h x (List.mem_cons_of_mem _ hx)
    simp only [patsWP, Qef, Qaq]
    exact (h1.app (PcOk.sp (.inl rfl) h2) (.cons rfl)).to (by simp) rfl
theorem row_pc {r : Rw} (h : rowB r = true) : PcOk (rowP r) (rowL r) (rowT r) := by
  obtain ⟨at0, pats, has, body⟩ := r
  unfold rowB at h
  simp only [Bool.and_eq_true] at h
  have hp := patsW_pc pats fun t ht => Qhb (List.all_eq_true.1 h.1.2 t ht)
  have hend : PcOk [tk4 sSem, .sp 10] [59, 10] [(4, sSem)] := PcOk.mark sSem_l (by decide +kernel) (PcOk.sp (.inr rfl) .nil)
  cases has with
  | true =>
    have hb := ex_pc (Qfc (show Qby body = true from h.2)) 0
    have h1 := hb.app hend (.cons rfl)
    have h2 : PcOk (tk4 sEq :: .sp 32 :: (exP body 0 ++ [tk4 sSem, .sp 10])) _ _ := PcOk.mark sEq_l (by decide +kernel) (PcOk.sp (.inl rfl) h1)
    have h3 := hp.app h2 (.cons rfl)
    exact (PcOk.sp (.inl rfl) (PcOk.sp (.inl rfl) h3)).to (by simp [rowL]) (by simp [rowT, bodyT])
  | false =>
    have h3 := hp.app hend (.cons rfl)
    exact (PcOk.sp (.inl rfl) (PcOk.sp (.inl rfl) h3)).to (by simp [rowL]) (by simp [rowT, bodyT])
theorem rows_pc : ∀ (rs : List Rw), (∀ r ∈ rs, rowB r = true) → PcOk (rowsP rs) (Qds rs) (Qeg rs) := by
  intro rs
  induction rs with
  | nil => intro _; exact .nil
  | cons r rs ih =>
    intro h
    exact ((row_pc (h r List.mem_cons_self)).app (ih fun x hx => h x (List.mem_cons_of_mem _ hx)) (rows_hs rs)).to rfl rfl
def declP (d : Dc) : List Pc := .tok 2 (kwT d.kind).2 :: .sp 32 :: .tok 1 d.name :: (telesP d.tele ++ .sp 32 :: tk4 sCol :: .sp 32 :: (exP d.ty 0 ++ .sp 32 :: .bra :: (consP' d.cons ++ (rowsP d.rows ++ [tk4 sKet, .sp 10]))))
theorem kw_l {k : Int} (h : 1 ≤ k ∧ k ≤ 3) : (kwT k).2.toList = kwL k ∧ keyS (kwT k).2 = true := by
 rcases (show k = 1 ∨ k = 2 ∨ k = 3 by omega) with rfl | rfl | rfl
 ·exact ⟨by show sData.toList = _; rw [sData_l]; rfl, by decide +kernel⟩
 ·exact ⟨by show sRec.toList = _; rw [sRec_l]; rfl, by decide +kernel⟩
 ·exact ⟨by show sDef.toList = _; rw [sDef_l]; rfl, by decide +kernel⟩
theorem decl_pc {d : Dc} (h : Qbt d = true) : PcOk (declP d) (Qgq d) (Qfm d) := by
 obtain ⟨kd, at0, nm, te, ty, co, ro⟩ := d
 unfold Qbt at h
 simp only [Bool.and_eq_true, decide_eq_true_eq] at h
 obtain ⟨⟨⟨⟨⟨⟨⟨⟨hk, hn⟩, hty⟩, hte⟩, hco⟩, -⟩, -⟩, -⟩, hro⟩ := h
 unfold Qcb at hte hco
 rw [Bool.and_eq_true] at hte hco
 obtain ⟨k1, k2⟩ := kw_l hk
 have h1 := teles_pc te fun b hb => List.all_eq_true.1 hte.2 b hb
 have h2 := conss_pc co fun b hb => List.all_eq_true.1 hco.2 b hb
 have h3 := rows_pc ro fun b hb => List.all_eq_true.1 hro b hb
 have h4 := ex_pc (Qfc hty) 0
 have hend : PcOk [tk4 sKet, .sp 10] [125, 10] [(4, sKet)] := PcOk.mark sKet_l (by decide +kernel) (PcOk.sp (.inr rfl) .nil)
 have hhs : ∀ l : List Pc, HS l → HS (l ++ [tk4 sKet, .sp 10]) := fun l h => by
  rcases h with rfl | ⟨c, r, rfl, hc⟩
  ·exact .cons rfl
  ·exact .cons hc
 have a1 := h3.app hend (.cons rfl)
 have a2 := h2.app a1 (hhs _ (rows_hs ro))
 have a3 := h4.app (PcOk.sp (.inl rfl) (PcOk.bra a2)) (.cons rfl)
 have a4 := h1.app (PcOk.sp (.inl rfl) (PcOk.mark sCol_l (by decide +kernel) (PcOk.sp (.inl rfl) a3))) (.cons rfl)
 have hhs4 : HS (telesP te ++ .sp 32 :: tk4 sCol :: .sp 32 :: (exP ty 0 ++ .sp 32 :: .bra :: (consP' co ++ (rowsP ro ++ [tk4 sKet, .sp 10])))) := by
  rcases teles_hs te with h | ⟨c, r, h, hc⟩
  ·rw [h]; exact .cons rfl
  ·rw [h]; exact .cons hc
 have a5 := PcOk.word (k := 2) (s := (kwT kd).2) (.inr (.inl ⟨rfl, k2⟩)) (PcOk.sp (.inl rfl) (PcOk.word (name_va hn) a4 hhs4)) (.cons rfl)
 exact a5.to (by rw [k1]; simp [Qgq]) (by simp [Qfm]; rfl)
def declsP : List Dc → List Pc
 | [] => []
 | d :: ds => declP d ++ declsP ds
def Qfg : List Dc → List UInt8
 | [] => []
 | d :: ds => Qgq d ++ Qfg ds
theorem decls_pc : ∀ (ds : List Dc), (∀ d ∈ ds, Qbt d = true) → PcOk (declsP ds) (Qfg ds) (Qfh ds) := by
  intro ds
  induction ds with
  | nil => intro _; exact .nil
  | cons d ds ih =>
    intro h
    have h1 := decl_pc (h d List.mem_cons_self)
    have h2 := ih fun x hx => h x (List.mem_cons_of_mem _ hx)
    refine ⟨by simp only [declsP, Qfg, Qge, h1.by', h2.by'], by simp only [declsP, Qfh, Qhe, h1.tk, h2.tk], ?_, fun x hx => ?_⟩
    · -- a declaration ends with a blank
      have hl : ∃ p, declP d = p ++ [.sp 10] := ⟨.tok 2 (kwT d.kind).2 :: .sp 32 :: .tok 1 d.name :: (telesP d.tele ++ .sp 32 :: tk4 sCol :: .sp 32 :: (exP d.ty 0 ++ .sp 32 :: .bra :: (consP' d.cons ++ (rowsP d.rows ++ [tk4 sKet])))), by simp [declP]⟩
      obtain ⟨p, hp⟩ := hl
      have h3 := h1.ok
      simp only [declsP]
      rw [hp] at h3 ⊢
      rw [List.append_assoc]
      have h4 : okP p = true := by
        clear hp
        induction p with
        | nil => rfl
        | cons x p ihp =>
          cases p with
          | nil => rfl
          | cons y p =>
            simp only [List.cons_append, okP, Bool.and_eq_true] at h3 ⊢
            exact ⟨h3.1, ihp h3.2⟩
      exact Qha rfl h4 h2.ok
    · simp only [declsP] at hx
      rcases List.mem_append.1 hx with hx | hx
      · exact h1.va x hx
      · exact h2.va x hx
theorem sees_text {ps : List Pc} {b : List UInt8} {ts : List (Int × ByteArray)} (h : PcOk ps b ts) (hs : b.length ≤ 65535) (hn : ts.length ≤ 8192) :
  (tokA (strB b)).2.2 = 0 ∧ Qed (strB b) = ⟨0, 0, 0⟩ ∧ Sees (Qbu (strB b)) 0 (ts ++ [(5, ⟨#[]⟩)]) ∧ (Qbu (strB b)).length = ts.length + 1 ∧ (tokA (strB b)).1.length = ts.length + 1 := by
 obtain ⟨rfl, rfl, ho, hv⟩ := h
 obtain ⟨h1, h2⟩ := (lex_text hv ho hs).1 hn
 have e : Qbu (strB (Qbp ps)) = (tokA (strB (Qbp ps))).1 := by unfold Qbu; rw [if_neg (by simp [h1])]
 have hl : (tokA (strB (Qbp ps))).1.length = (Qca ps).length + 1 := by
  have := congrArg List.length h2
  rw [List.length_map, List.length_append] at this
  exact this
 refine ⟨h1, by unfold Qed; rw [if_neg (by simp [h1])], ⟨[], ?_⟩, by rw [e]; exact hl, hl⟩
 rw [e, List.drop_zero, h2, List.append_nil]
theorem many_text {ps : List Pc} {b : List UInt8} {ts : List (Int × ByteArray)} (h : PcOk ps b ts) (hs : b.length ≤ 65535) (hn : 8192 < ts.length) : (tokA (strB b)).2.2 ≠ 0 := by
 obtain ⟨rfl, rfl, ho, hv⟩ := h
 exact (lex_text hv ho hs).2 hn
def tokN (s : ByteArray) : Int := if (tokA s).2.2 = 0 then ((tokA s).1.length : Int) else 9999
theorem file_back {ds : List Dc} (h : ∀ d ∈ ds, Qbt d = true) (hs : (Qfg ds).length ≤ 65535) (hn : tokN (strB (Qfg ds)) ≤ 8192) : (Qcw (strB (Qfg ds))).2.2 = 0 ∧ (Qcw (strB (Qfg ds))).1.map eDc = ds.map eDc := by
  have hp := decls_pc ds h
  have hc : (Qfh ds).length ≤ 8192 := by
    apply Nat.le_of_not_lt
    intro hlt
    unfold tokN at hn
    rw [if_neg (many_text hp hs hlt)] at hn
    omega
  obtain ⟨-, h2, h3, h4, -⟩ := sees_text hp hs hc
  have hl : ∀ ds : List Dc, ds.length ≤ (Qfh ds).length := by
    intro ds
    induction ds with
    | nil => exact Nat.le_refl _
    | cons d ds ih =>
      simp only [Qfh, List.length_append, List.length_cons]
      have : 1 ≤ (Qfm d).length := by unfold Qfm; simp only [List.length_append, List.length_cons]; omega
      omega
  have := hl ds
  obtain ⟨ds', e, hd⟩ := file_read ds h ((Qbu (strB (Qfg ds))).length + 1) [] 0 0 (by rw [h4]; omega) h3
  rw [List.nil_append] at e
  have hA : Qcw (strB (Qfg ds)) = (ds', ((strB (Qfg ds)).size : Int), 0) := by
    unfold Qcw
    rw [h2, e]
    rfl
  rw [hA]
  exact ⟨rfl, hd⟩
theorem Qlq : ∀ ds : List Dc, Qfg ds = Qbb ds
 | [] => rfl
 | d :: ds => by rw [Qfg, Qbb, Qlq ds]
theorem goodL_app : ∀ (a b : List Nd) (p : Bool), Qbi (a ++ b) p = (Qbi a p && Qbi b p)
 | [], b, p => by simp [Qbi]
 | t :: ts, b, p => by simp only [List.cons_append, Qbi, goodL_app ts b p, Bool.and_assoc]
structure PG (g : Nd) : Prop where
 nm : Qaj g.name = true
 nu : g.num = 0
 sb : Qbi g.sub true = true
 kd : g.kind = 6 ∧ g.sub = [] ∨ g.kind = 8 ∧ g.sub ≠ []
theorem PG.good {g : Nd} (h : PG g) : Qak g true = true := by
 obtain ⟨k, a, s, n, sub⟩ := g
 obtain ⟨h1, h2, h3, h4⟩ := h
 simp only [Nd.name, Nd.num, Nd.sub, Nd.kind] at h1 h2 h3 h4
 subst h2
 rw [Qcs]
 rcases h4 with ⟨rfl, rfl⟩ | ⟨rfl, h4⟩
 ·simp [Qbs, Qch, numB, Qbi, h1]
 ·have : 0 < sub.length := List.length_pos_iff.2 h4
  simp [Qbs, Qch, numB, h1, h3]
  exact this
theorem pat_good {l : List Tk} (hl : TkOk l) (hn : TkN l) : ∀ n,
    (∀ σ, Wf l σ → isS l σ 0 sPar = true → Fu l n 2 σ → (Qdp l n σ).2.bad = 0 → Qak (Qdp l n σ).1 true = true) ∧
    (∀ a g σ, Wf l σ → (σ.bad = 0 → 6 * (l.length - σ.i) + 4 ≤ n) → PG g → (parL l n a g σ).2.bad = 0 → PG (parL l n a g σ).1) ∧
    (∀ σ, Wf l σ → Fu l n 3 σ → (patS l n σ).2.bad = 0 → Qak (patS l n σ).1 true = true) := by
  intro n
  induction n with
  | zero => exact ⟨fun _ _ _ h _ => absurd h.1 (Nat.lt_irrefl 0), fun a g σ _ _ hg _ => hg, fun _ _ h _ => absurd h.1 (Nat.lt_irrefl 0)⟩
  | succ n ih =>
    obtain ⟨i1, i2, i3⟩ := ih
    obtain ⟨A1, A2, A3⟩ := Qju hl n
    refine ⟨fun σ hw hp hf hb => ?_, fun a g σ hw hf hg hb => ?_, fun σ hw hf hb => ?_⟩
    · have h1 := Qax hl (Qbw hp)
      simp only [Qdp] at hb ⊢
      split
      · rw [Qcs]; simp [Qbs, Qch, numB, Qbi]
      · rename_i h2
        rw [if_neg h2] at hb
        split
        · rename_i h3
          rw [if_pos h3] at hb
          try simp only at hb ⊢
          have h4 := h1.trans (A3 _ h1.1).1
          have b4 := ((Qag hl sRap h4.1).2 hb).1
          have b0 := (h4.2 b4).1
          have := hf.2 b0
          have hw' : σ.i < l.length := hw
          exact i3 _ h1.1 (hf.next hw h1 (by omega) (by omega)) b4
        · rename_i h3
          rw [if_neg h3] at hb
          try simp only at hb ⊢
          have a2 := Qdu hl h1.1
          have h2' := h1.trans a2.adv
          have h3' := h2'.trans (A2 (tkg l σ.i).at_ (.mk 6 (tkg l (incS σ).i).at_ (Qal l (incS σ)).1 0 []) _ h2'.1)
          have b4 := ((Qag hl sRap h3'.1).2 hb).1
          have b3 := ((A2 (tkg l σ.i).at_ (.mk 6 (tkg l (incS σ).i).at_ (Qal l (incS σ)).1 0 []) _ h2'.1).2 b4).1
          have hr := Qfx hn h1.1 b3
          have b0 := (h2'.2 b3)
          have h5 := hf.2 b0.1
          have hw' : σ.i < l.length := hw
          have hw2 : (Qal l (incS σ)).2.i < l.length := h2'.1
          have hg : PG (.mk 6 (tkg l (incS σ).i).at_ (Qal l (incS σ)).1 0 []) := ⟨hr, rfl, by simp only [Nd.sub, Qbi], .inl ⟨rfl, rfl⟩⟩
          have b9 := b0.2
          have h6 : 6 * (l.length - (Qal l (incS σ)).2.i) + 4 ≤ n := by
            generalize (Qal l (incS σ)).2.i = j at b9 hw2 ⊢
            omega
          exact (i2 (tkg l σ.i).at_ _ _ h2'.1 (fun _ => h6) hg b4).good
    · simp only [parL] at hb ⊢
      split
      · rename_i h1
        rw [if_pos h1] at hb
        try simp only at hb ⊢
        have hw' : σ.i < l.length := hw
        have hfu := hf h1.1
        have a1 := A3 σ hw
        have b1 := ((A2 a (.mk 8 a g.name g.num (g.sub ++ [(patS l n σ).1])) _ a1.1.1).2 hb).1
        have g1 := i3 σ hw ⟨by omega, fun _ => by omega⟩ b1
        have h3 := (a1.2 (by omega)).2 b1
        have h4 : (patS l n σ).2.i < l.length := a1.1.1
        have hg2 : Qbi (g.sub ++ [(patS l n σ).1]) true = true := by
          rw [goodL_app, hg.sb]
          simp [Qbi, g1]
        exact i2 _ _ _ a1.1.1 (fun _ => by omega) ⟨hg.nm, hg.nu, hg2, .inr ⟨rfl, by simp [Nd.sub]⟩⟩ hb
      · exact hg
    · by_cases hz : σ.bad = 0
      rotate_left
      · rw [patS, if_pos hz] at hb; exact absurd hb hz
      have hfu := hf.2 hz
      have hw' : σ.i < l.length := hw
      simp only [patS, if_neg (show ¬ σ.bad ≠ 0 by simp [hz])] at hb ⊢
      split
      · rename_i h1
        rw [if_pos h1] at hb
        exact i1 σ hw h1 (hf.same hw (Adv.refl hw) (by omega) (by omega)) hb
      · rename_i h1
        rw [if_neg h1] at hb
        split
        · rename_i h2
          rw [if_pos h2] at hb
          try simp only at hb ⊢
          have a1 := Qax hl (Qbw h2)
          have h7 : (incS σ).i < l.length := a1.1
          have g1 := (read_good hl hn (Qes l)).2.2.1 _ a1.1 ⟨by unfold Qes; omega, fun _ => by unfold Qes; omega⟩ hb
          rw [Qcs]
          simp [Qbs, Qch, numB, Qbi, g1]
        · rename_i h2
          rw [if_neg h2] at hb
          split
          · rw [Qcs]; simp [Qbs, Qch, numB, Qbi]
          · rename_i h3
            rw [if_neg h3] at hb
            try simp only at hb ⊢
            rw [Qcs]
            simp only [Qbs, Qch, numB, Qbi]
            have := Qfx hn hw hb
            simpa using this
theorem checked_bad {x : Nd} {a : Int} {σ : ST} (h : (Qcc x a σ).bad = 0) : σ.bad = 0 ∧ Qcn x ≤ 128 := by
 refine ⟨?_, checked_sm h⟩
 unfold Qcc at h
 split at h
 ·exact absurd h (Qci 2 _ _ (by decide))
 ·exact h
theorem fail_no {k a : Int} {σ : ST} (hk : k ≠ 0) (h : (Qbh k a σ).bad = 0) : False := Qci k a σ hk h
theorem Qip {l : List Tk} (hl : TkOk l) (hn : TkN l) {σ : ST} (hw : Wf l σ) (hb : (Qbg l (Qbf l) σ).2.bad = 0) : Qby (Qbg l (Qbf l) σ).1 = true :=
 expr_good hl hn (Qbf l) σ hw ⟨by unfold Qbf; omega, fun _ => by unfold Qbf; omega⟩ hb
theorem patsS_good {l : List Tk} (hl : TkOk l) (hn : TkN l) : ∀ n acc σ, Wf l σ → acc.length ≤ 24 → (∀ x ∈ acc, patB x = true) → (Qcr l n acc σ).2.bad = 0 → (Qcr l n acc σ).1.length ≤ 24 ∧ ∀ x ∈ (Qcr l n acc σ).1, patB x = true := by
  intro n
  induction n with
  | zero => intro acc σ _ h1 h2 _; exact ⟨h1, h2⟩
  | succ n ih =>
    intro acc σ hw h1 h2 hb
    simp only [Qcr] at hb ⊢
    split
    · rename_i h3
      rw [if_pos h3] at hb
      split
      · rename_i h4
        rw [if_pos h4] at hb
        exact (fail_no (by decide) hb).elim
      · rename_i h4
        rw [if_neg h4] at hb
        have a1 := (Qju hl (patF l)).2.2 σ hw
        have hw1 : Wf l (Qcc (patS l (patF l) σ).1 (tkg l σ.i).at_ (patS l (patF l) σ).2) := (Qjp hl _ _ a1.1.1).1
        have b1 := ((Qkp hl n (acc ++ [(patS l (patF l) σ).1]) _ hw1).2 hb).1
        obtain ⟨b2, d2⟩ := checked_bad b1
        have g1 := (pat_good hl hn (patF l)).2.2 σ hw ⟨by unfold patF; omega, fun _ => by unfold patF; omega⟩ b2
        refine ih _ _ hw1 (by rw [List.length_append, List.length_cons, List.length_nil]; omega) (fun x hx => ?_) hb
        rcases List.mem_append.1 hx with hx | hx
        · exact h2 x hx
        · rw [List.mem_singleton] at hx
          subst hx
          unfold patB Qey
          rw [g1, decide_eq_true d2]; rfl
    · exact ⟨h1, h2⟩
section
variable {l : List Tk} (hl : TkOk l) (hn : TkN l)
include hl hn
theorem con_good {σ : ST} (hw : Wf l σ) (h : (conS l σ).2.bad = 0) : Qcp (conS l σ).1 = true := by
 unfold conS at h ⊢
 simp only at h ⊢
 have a1 := Qdu hl hw
 have a2 := Qag hl sCol a1.1
 have a3 := Qdn hl a2.1
 have b2 := (a3.2 h).1
 have b1 := (a2.2 b2).1
 unfold Qcp
 simp only
 rw [Qfx hn hw b1, Qip hl hn a2.1 h]; rfl
theorem bind_good {σ : ST} (hw : Wf l σ) (h : (Qgd l σ).2.bad = 0) : Qcp (Qgd l σ).1 = true := by
 have h1 := Qag hl sPar hw
 have h2 := Qiu hl h1.1
 exact con_good hl hn h1.1 ((Qag hl sRap h2.1).2 h).1
theorem line_good {σ : ST} (hw : Wf l σ) (h : (Qgi l σ).2.bad = 0) : Qcp (Qgi l σ).1 = true := by
 have h2 := Qiu hl hw
 exact con_good hl hn hw ((Qag hl sSem h2.1).2 h).1
theorem list_good {most : Nat} {more : ST → Bool} {one : ST → Bd × ST} (ho : ∀ σ, Wf l σ → AdvS l σ (one σ).2) (hs : ∀ σ, Wf l σ → (one σ).2.bad = 0 → Qcp (one σ).1 = true) : ∀ (n : Nat) (acc : List Bd) (σ : ST), Wf l σ → acc.length ≤ most → (∀ x ∈ acc, Qcp x = true) → (Qdc l most more one n acc σ).2.bad = 0 → (Qdc l most more one n acc σ).1.length ≤ most ∧ ∀ x ∈ (Qdc l most more one n acc σ).1, Qcp x = true := by
  have _ := hn
  intro n
  induction n with
  | zero => intro acc σ _ hc ha _; exact ⟨hc, ha⟩
  | succ n ih =>
    intro acc σ hw hac ha hb
    simp only [Qdc] at hb ⊢
    split at hb
    · rename_i hc
      rw [if_pos hc]
      split at hb
      · exact absurd hb (Qci 2 _ σ (by decide))
      · rename_i hn2
        rw [if_neg hn2]
        have h1 := ho σ hw
        have h3 := list_adv hl (most := most) (more := more) ho n (acc ++ [(one σ).1]) _ h1.1
        refine ih _ _ h1.1 (by rw [List.length_append, List.length_cons, List.length_nil]; omega) (fun x hx => ?_) hb
        rcases List.mem_append.1 hx with hx | hx
        · exact ha x hx
        · rw [List.mem_singleton.1 hx]
          exact hs σ hw (h3.2 hb).1
    · rename_i hc
      rw [if_neg hc]
      exact ⟨hac, ha⟩
theorem row_good {σ : ST} (hw : Wf l σ) (h : (rowS l σ).2.bad = 0) : rowB (rowS l σ).1 = true := by
 have hp := Qkp hl (l.length + 1) [] σ hw
 have hq := fun hb => patsS_good hl hn (l.length + 1) [] σ hw (by simp) (fun _ h => by cases h) hb
 unfold rowS at h ⊢
 simp only at h ⊢
 split
 ·rename_i hc
  rw [if_pos hc] at h
  have h1 := Qax hl (Qbw hc.2)
  have h2 := Qdn hl h1.1
  have h3 := (Qag hl sSem h2.1).2 h
  obtain ⟨q1, q2⟩ := hq hc.1
  unfold rowB
  simp only [if_true]
  rw [decide_eq_true q1, List.all_eq_true.2 q2, Qip hl hn h1.1 h3.1]; rfl
 ·rename_i hc
  rw [if_neg hc] at h
  have h3 := (Qag hl sSem hp.1).2 h
  obtain ⟨q1, q2⟩ := hq h3.1
  unfold rowB
  simp only [Bool.false_eq_true, if_false]
  rw [decide_eq_true q1, List.all_eq_true.2 q2, show zeroB zNd = true by decide +kernel]; rfl
theorem rows_good : ∀ (n : Nat) (acc : List Rw) (σ : ST), Wf l σ → acc.length ≤ 32 → (∀ x ∈ acc, rowB x = true) → (Qdt l n acc σ).2.bad = 0 → (Qdt l n acc σ).1.length ≤ 32 ∧ ∀ x ∈ (Qdt l n acc σ).1, rowB x = true := by
  intro n
  induction n with
  | zero => intro acc σ _ hc ha _; exact ⟨hc, ha⟩
  | succ n ih =>
    intro acc σ hw hac ha hb
    simp only [Qdt] at hb ⊢
    split at hb
    · rename_i hc
      rw [if_pos hc]
      split at hb
      · exact absurd hb (Qci 2 _ σ (by decide))
      · rename_i hn2
        rw [if_neg hn2]
        have h1 := row_adv hl hw
        have h3 := Qkt hl n (acc ++ [(rowS l σ).1]) _ h1.1
        refine ih _ _ h1.1 (by rw [List.length_append, List.length_cons, List.length_nil]; omega) (fun x hx => ?_) hb
        rcases List.mem_append.1 hx with hx | hx
        · exact ha x hx
        · rw [List.mem_singleton.1 hx]
          exact row_good hl hn hw (h3.2 hb).1
    · rename_i hc
      rw [if_neg hc]
      exact ⟨hac, ha⟩
theorem kind_bd (σ : ST) (h0 : ¬ Qcx l σ = 0) : 1 ≤ Qcx l σ ∧ Qcx l σ ≤ 3 := by
 have _ := hl; have _ := hn
 unfold Qcx at h0 ⊢
 split
 ·omega
 ·rename_i h1
  rw [if_neg h1] at h0
  split
  ·omega
  ·rename_i h2
   rw [if_neg h2] at h0
   split
   ·omega
   ·rename_i h3
    rw [if_neg h3] at h0
    exact absurd rfl h0
theorem decl_good {σ : ST} (h : Wf l σ) (hb : (Qet l σ).2.bad = 0) : Qbt (Qet l σ).1 = true := by
 by_cases h0 : Qcx l σ = 0
 ·rw [decl_0 h0] at hb
  exact absurd hb (Qci 1 _ σ (by decide))
 ·have hk := kind_bd hl hn σ h0
  have a0 := Qax hl (kind_k h0)
  have a1 := a0.trans (Qdu hl a0.1).adv
  by_cases h3 : Qcx l σ = 3
  ·rw [decl_3 h3] at hb ⊢
   have a3 := Qag hl sCol a1.1
   have a4 := Qdn hl a3.1
   have a5 := Qag hl sBra a4.1
   have a6 := Qkt hl (l.length + 1) [] _ a5.1
   have b6 := ((Qag hl sKet a6.1).2 hb).1
   have b5 := (a6.2 b6).1
   have b4 := (a5.2 b5).1
   have b3 := (a4.2 b4).1
   have b2 := (a3.2 b3).1
   have g1 := Qfx hn a0.1 b2
   have g2 := Qip hl hn a3.1 b4
   obtain ⟨g3, g4⟩ := rows_good hl hn (l.length + 1) [] _ a5.1 (by simp) (fun _ h => by cases h) b6
   unfold Qbt
   simp only
   rw [g1, g2, decide_eq_true g3, List.all_eq_true.2 g4]
   simp [Qcb]
  ·rw [decl_1 h0 h3] at hb ⊢
   have a2 := tele_adv hl a1.1
   have a3 := Qag hl sCol a2.1
   have a4 := Qdn hl a3.1
   have a5 := Qag hl sBra a4.1
   have a6 := cons_adv hl a5.1
   have b6 := ((Qag hl sKet a6.1).2 hb).1
   have b5 := (a6.2 b6).1
   have b4 := (a5.2 b5).1
   have b3 := (a4.2 b4).1
   have b2 := (a3.2 b3).1
   have b1 := (a2.2 b2).1
   have g1 := Qfx hn a0.1 b1
   have g2 := Qip hl hn a3.1 b4
   obtain ⟨g3, g4⟩ := list_good hl hn (most := 24) (more := Qex l) (fun _ h => bind_adv hl h) (fun _ h hb => bind_good hl hn h hb) (l.length + 1) [] _ a1.1 (by simp) (fun _ h => by cases h) b2
   obtain ⟨g5, g6⟩ := list_good hl hn (most := 16) (more := Qeo l) (fun _ h => line_adv hl h) (fun _ h hb => line_good hl hn h hb) (l.length + 1) [] _ a5.1 (by simp) (fun _ h => by cases h) b6
   have gt : Qcb (Qfq l (Qal l (incS σ)).2).1 24 = true := by
    have : (Qfq l (Qal l (incS σ)).2).1.length ≤ 24 := g3
    unfold Qcb
    rw [Bool.and_eq_true]
    exact ⟨decide_eq_true (by omega), List.all_eq_true.2 g4⟩
   have gc : Qcb (consS l (Qaf l sBra (Qbg l (Qbf l) (Qaf l sCol (Qfq l (Qal l (incS σ)).2).2)).2)).1 16 = true := by
    have : (consS l (Qaf l sBra (Qbg l (Qbf l) (Qaf l sCol (Qfq l (Qal l (incS σ)).2).2)).2)).1.length ≤ 16 := g5
    unfold Qcb
    rw [Bool.and_eq_true]
    exact ⟨decide_eq_true (by omega), List.all_eq_true.2 g6⟩
   unfold Qbt
   simp only
   rw [g1, g2, gt, gc, decide_eq_true hk]
   simp [h3]
theorem file_good : ∀ (n : Nat) (acc : List Dc) (σ : ST), Wf l σ → (∀ x ∈ acc, Qbt x = true) → (Qdw l n acc σ).2.bad = 0 → ∀ x ∈ (Qdw l n acc σ).1, Qbt x = true := by
  intro n
  induction n with
  | zero => intro acc σ _ ha _; exact ha
  | succ n ih =>
    intro acc σ hw ha hb
    simp only [Qdw] at hb ⊢
    split at hb
    · rename_i hc
      rw [if_pos hc]
      have h1 := decl_adv hl hw
      have h3 := fileS_adv hl n (acc ++ [(Qet l σ).1]) _ h1.1
      refine ih _ _ h1.1 (fun x hx => ?_) hb
      rcases List.mem_append.1 hx with hx | hx
      · exact ha x hx
      · rw [List.mem_singleton.1 hx]
        exact decl_good hl hn hw (h3.2 hb).1
    · rename_i hc
      rw [if_neg hc]
      exact ha
end
theorem fileA_good (s : ByteArray) (h : (Qcw s).2.2 = 0) : ∀ d ∈ (Qcw s).1, Qbt d = true := by
 have hs := file_good (Qjw s) (startN s) ((Qbu s).length + 1) [] (Qed s) (startW s) (fun _ h => by cases h)
 unfold Qcw at h ⊢
 simp only at h ⊢
 split at h
 ·rename_i hb
  rw [if_pos hb]
  exact hs hb
 ·rename_i hb
  exact absurd h hb
theorem par_e (t : Nd) (lv : Int) : par (eNd t) lv = par t lv := by
 cases t; simp only [eNd]; rfl
theorem in_e : ∀ (m : Nat) (t : Nd), SizeOf.sizeOf t ≤ m → inL (eNd t) = inL t := by
  intro m
  induction m with
  | zero => intro t h; cases t; simp at h
  | succ m ih =>
    intro t h
    obtain ⟨k, a, s, n, sub⟩ := t
    match sub, h with
    | [], _ => simp only [eNd, eNds, inL]
    | [x], _ => simp only [eNd, eNds, inL]
    | [x, y], h =>
      have h1 := ih x (by simp at h; omega)
      have h2 := ih y (by simp at h; omega)
      simp only [eNd, eNds, inL, par_e, h1, h2]
    | x :: y :: z :: r, _ => simp only [eNd, eNds, inL]
theorem ex_e (t : Nd) (lv : Int) : exL (eNd t) lv = exL t lv := by
 unfold exL
 rw [par_e, in_e _ t (Nat.le_refl _)]
theorem dot_e (l : List Nd) : dotL (eNds l) = dotL l := by
 cases l with
 | nil => rfl
 | cons x r => simp only [eNds, dotL, ex_e]
theorem pats_e : ∀ l : List Nd, (∀ t ∈ l, patL (eNd t) = patL t) → Qdy (eNds l) = Qdy l
  | [], _ => by simp only [eNds]
  | t :: ts, h => by
    simp only [eNds, Qdy]
    rw [h t List.mem_cons_self, pats_e ts fun x hx => h x (List.mem_cons_of_mem _ hx)]
theorem pat_e : ∀ (m : Nat) (t : Nd), SizeOf.sizeOf t ≤ m → patL (eNd t) = patL t := by
  intro m
  induction m with
  | zero => intro t h; cases t; simp at h
  | succ m ih =>
    intro t h
    obtain ⟨k, a, s, n, sub⟩ := t
    have h1 := pats_e sub fun x hx => ih x (by
      have := List.sizeOf_lt_of_mem hx
      simp at h; omega)
    simp only [eNd, patL, dot_e, h1]
theorem patsW_e : ∀ l : List Nd, Qef (l.map eNd) = Qef l
 | [] => rfl
 | t :: ts => by simp only [List.map_cons, Qef, pat_e _ t (Nat.le_refl _), patsW_e ts]
theorem bdL_e (b : Bd) : bdL (eBd b) = bdL b := by unfold bdL eBd; simp only [ex_e]
theorem teles_e : ∀ l : List Bd, Qbv (l.map eBd) = Qbv l
 | [] => rfl
 | t :: ts => by simp only [List.map_cons, Qbv, bdL_e, teles_e ts]
theorem conss_e : ∀ l : List Bd, Qcv (l.map eBd) = Qcv l
 | [] => rfl
 | t :: ts => by simp only [List.map_cons, Qcv, bdL_e, conss_e ts]
theorem rowL_e (r : Rw) : rowL (eRw r) = rowL r := by unfold rowL eRw; simp only [ex_e, patsW_e]
theorem rowsL_e : ∀ l : List Rw, Qds (l.map eRw) = Qds l
 | [] => rfl
 | t :: ts => by simp only [List.map_cons, Qds, rowL_e, rowsL_e ts]
theorem declL_e (d : Dc) : Qgq (eDc d) = Qgq d := by unfold Qgq eDc; simp only [ex_e, teles_e, conss_e, rowsL_e]
theorem files_e : ∀ l : List Dc, Qbb (l.map eDc) = Qbb l
 | [] => rfl
 | t :: ts => by simp only [List.map_cons, Qbb, declL_e, files_e ts]
theorem fileR_yes {l : List Dc} (h : ∀ d ∈ l, Qbt d = true) : fileR l = Qgk (Qbb l) := by
 unfold fileR
 rw [if_pos (List.all_eq_true.2 h)]
theorem print_once {l : List Dc} (h : ∀ d ∈ l, Qbt d = true) (hs : (Qbb l).length ≤ 65535) (hn : tokN (strB (Qbb l)) ≤ 8192) :
  (Qcw (strB (Qbb l))).2.2 = 0 ∧ (Qcw (strB (Qbb l))).1.length = l.length ∧ fileR (Qcw (strB (Qbb l))).1 = .tup [.d (.v (.string (strB (Qbb l)))), .d (.v (.int .i64 0))] := by
 have h0 := Qlq l
 have h1 := file_back h (by rw [h0]; exact hs) (by rw [h0]; exact hn)
 rw [h0] at h1
 obtain ⟨h1, h2⟩ := h1
 have h3 := fileA_good _ h1
 generalize (Qcw (strB (Qbb l))).1 = m at *
 refine ⟨h1, by simpa using congrArg List.length h2, ?_⟩
 rw [fileR_yes h3, ← files_e m, h2, files_e l]
 unfold Qgk
 rw [if_pos hs]; rfl
theorem tokens6_p (s : ByteArray) : PCalls Try.prog 21 [.d (.v (.string s))] [] fun p st => p = .d (.v (.int .i64 (tokN s))) ∧ st = [] := by
 have HT := tall_p s
 unfold tokP at HT
 have HE := Hh (show tokN s = if (tokA s).2.2 = 0 then ((tokA s).1.length : Int) else 9999 from rfl)
 generalize tokN s = q at *
 generalize (tokA s).1 = l at *
 generalize (tokA s).2.1 = a at *
 generalize (tokA s).2.2 = e at *
 by_cases h0 : e = 0
 ·refine pG Try.func21 Try.ntmps21 ?_
  refine Qat (HT) ?_
  refine rT Try.results21 ?_
  exact ⟨by rw [HE.out, if_pos h0]; rfl, rfl⟩
 ·refine pG Try.func21 Try.ntmps21 ?_
  refine Qat (HT) ?_
  refine rT Try.results21 ?_
  exact ⟨by rw [HE.out, if_neg h0]; rfl, rfl⟩
theorem printOnce_p (s : ByteArray) : PCalls Try.prog 7 [.d (.v (.string s))] [] fun p st => p = .d (.v (.bool true)) ∧ st = [] := by
 by_cases hs : s.size ≤ 4000
 ·have hc : ¬ (4000 : Int) < s.size := by omega
  have HA := file_p s
  have hg := fileA_good s
  have hl := fileA_len s
  have hl2 := (Qjw s).len
  generalize (Qcw s).2.1 = a1 at *
  generalize (Qcw s).2.2 = e1 at *
  generalize (Qcw s).1 = A at *
  by_cases h1 : e1 = 0
  ·have hr := hg h1
   have HB := filex_p A (by omega)
   rw [fileR_yes hr] at HB
   unfold Qgk at HB
   by_cases h2 : (Qbb A).length ≤ 65535
   ·rw [if_pos h2] at HB
    have HT := tokens6_p (strB (Qbb A))
    have HM := fun h => print_once hr h2 h
    have HC := file_p (strB (Qbb A))
    have hl3 := fileA_len (strB (Qbb A))
    have hl4 := (Qjw (strB (Qbb A))).len
    generalize tokN (strB (Qbb A)) = k at *
    change PCalls _ _ _ _ (fun p st => p = .tup [.d (.v (.string (strB (Qbb A)))), .d (.v (.int .i64 0))] ∧ st = []) at HB
    generalize strB (Qbb A) = t at *
    clear hg hr h2 hl hl2
    by_cases h3 : (8192 : Int) < k
    ·clear HM HC hl3 hl4
     unfold slD at HA HB
     refine pG Try.func7 Try.ntmps7 ?_
     refine Qat (HA) ?_
     refine Qat (HB) ?_
     refine Qcl (HT) ?_
     refine Qcl (Qiy) ?_
     refine rT Try.results7 ?_
     exact ⟨rfl, rfl⟩
    ·obtain ⟨m1, m2, m3⟩ := HM (by omega)
     have HD := filex_p (Qcw t).1 (by omega)
     rw [m3] at HD
     rw [m1] at HC
     clear HM m1 m3 hl3 hl4
     generalize (Qcw t).2.1 = a2 at *
     generalize (Qcw t).1 = B at *
     unfold slD at HA HB HC HD
     refine pG Try.func7 Try.ntmps7 ?_
     refine Qat (HA) ?_
     refine Qat (HB) ?_
     refine Qcl (HT) ?_
     refine Qat (HC) ?_
     refine Qat (HD) ?_
     refine Qcl (Qiy) ?_
     refine rT Try.results7 ?_
     exact ⟨rfl, rfl⟩
   ·rw [if_neg h2] at HB
    clear hg hr h2 hl hl2
    unfold slD at HA HB
    refine pG Try.func7 Try.ntmps7 ?_
    refine Qat (HA) ?_
    refine Qat (HB) ?_
    refine Qcl (Qiy) ?_
    refine rT Try.results7 ?_
    exact ⟨rfl, rfl⟩
  ·clear hg hl hl2
   unfold slD at HA
   refine pG Try.func7 Try.ntmps7 ?_
   refine Qat (HA) ?_
   refine Qcl (Qiy) ?_
   refine rT Try.results7 ?_
   exact ⟨rfl, rfl⟩
 ·have hc : (4000 : Int) < s.size := by omega
  refine pG Try.func7 Try.ntmps7 ?_
  refine Qcl (Qiy) ?_
  refine rT Try.results7 ?_
  exact ⟨rfl, rfl⟩
theorem printOnce_walk (s : ByteArray) (hs : s.size ≤ maxLen) (w : World) : Calls Try.prog 7 #[.string s] w fun e w' => e = .returned (.bool true) ∧ Below w.heap.size w w' :=
 ((printOnce_p s).mono fun p st h => h.1).top (relVs_cons (.d (.v hs)) (relVs_nil _ _))
end Go.Proofs.Ytahhgpafjiljfaa

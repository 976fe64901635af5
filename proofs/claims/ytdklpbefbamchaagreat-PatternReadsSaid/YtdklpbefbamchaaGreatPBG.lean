import Derived.Test.YtdklpbefbamchaaGreatDBG1
import Derived.Test.YtdklpbefbamchaaGreatPBI
set_option linter.unusedSimpArgs false
set_option linter.unusedVariables false
set_option maxHeartbeats 16000000
set_option maxRecDepth 100000
namespace Go.Proofs.YtdklpbefbamchaaGreat
open Go.RowKit
mutual
def pvT : Pt → List Int
 | .mk k n _ sub _ => if k = 1 then [n] else pvL sub
def pvL : List Pt → List Int
 | [] => []
 | p :: ps => pvT p ++ pvL ps
end
structure Rs where
 names : List ByteArray
 e : Int
 at_ : Int
def Rs.fail (σ : Rs) (e a : Int) : Rs := if σ.e = 0 then ⟨σ.names, e, a⟩ else σ
def zTm : Tm := .mk 0 0 []
def zPt : Pt := .mk 0 0 0 [] zTm
def hasN (ns : List ByteArray) (s : ByteArray) : Bool := decide (0 ≤ Qbx ns s ns.length)
def varR (s : ByteArray) (a : Int) (σ : Rs) : Pt × Rs :=
 if (!(s.toList == [95]) && hasN σ.names s) = true then (zPt, σ.fail 4 a) else (.mk 1 σ.names.length a [] zTm, ⟨σ.names ++ [s], σ.e, σ.at_⟩)
def conN (l : List En) (s : ByteArray) : Option Nat := match findN s l 0 with
 | some c => if isE l c 2 = true then some c else none
 | none => none
mutual
def rdT (l : List En) : Nd → Rs → Pt × Rs
  | .mk k a s _ sub, σ =>
    if k = 7 then varR lowS a σ else if k = 9 then (.mk 4 0 a [] zTm, σ) else if k = 10 then (.mk 3 0 a [] (.mk 2 0 []), σ)
    else match conN l s with
    | some c => if arN l c = (sub.length : Int) then (.mk 2 c a (rdL l sub σ).1 zTm, (rdL l sub σ).2) else (zPt, σ.fail 17 a)
    | none => if k = 8 then (zPt, σ.fail 17 a) else varR s a σ
def rdL (l : List En) : List Nd → Rs → List Pt × Rs
 | [], σ => ([], σ)
 | n :: ns, σ => ((rdT l n σ).1 :: (rdL l ns (rdT l n σ).2).1, (rdL l ns (rdT l n σ).2).2)
end
theorem fail_e {σ : Rs} {e a : Int} (h : σ.e ≠ 0) : σ.fail e a = σ := by unfold Rs.fail; rw [if_neg h]
theorem fail_ne {σ : Rs} {e a : Int} (he : e ≠ 0) : (σ.fail e a).e ≠ 0 := by
 unfold Rs.fail
 split
 ·exact he
 ·assumption
theorem var_err {s : ByteArray} {a : Int} {σ : Rs} (h : σ.e ≠ 0) : (varR s a σ).2.e = σ.e ∧ (varR s a σ).2.at_ = σ.at_ := by
 unfold varR
 split
 ·rw [fail_e h]; exact ⟨rfl, rfl⟩
 ·exact ⟨rfl, rfl⟩
theorem rd_err {l : List En} : ∀ (n : Nd) (σ : Rs), σ.e ≠ 0 → (rdT l n σ).2.e = σ.e ∧ (rdT l n σ).2.at_ = σ.at_ := by
  refine Nd.ind ?_
  intro k a s m sub ih σ h
  have key : ∀ (r : List Nd), (∀ x ∈ r, x ∈ sub) → ∀ τ : Rs, τ.e ≠ 0 → (rdL l r τ).2.e = τ.e ∧ (rdL l r τ).2.at_ = τ.at_ := by
    intro r
    induction r with
    | nil => intro _ τ _; simp only [rdL]; exact ⟨trivial, trivial⟩
    | cons x r ihr =>
      intro hm τ hτ
      simp only [rdL]
      obtain ⟨h1, h2⟩ := ih x (hm x (by simp)) τ hτ
      obtain ⟨h3, h4⟩ := ihr (fun y hy => hm y (by simp [hy])) (rdT l x τ).2 (by rw [h1]; exact hτ)
      exact ⟨by rw [h3, h1], by rw [h4, h2]⟩
  simp only [rdT]
  split
  · exact var_err h
  · split
    · exact ⟨rfl, rfl⟩
    · split
      · exact ⟨rfl, rfl⟩
      · split
        · split
          · exact key sub (fun x h => h) σ h
          · rw [fail_e h]; exact ⟨rfl, rfl⟩
        · split
          · rw [fail_e h]; exact ⟨rfl, rfl⟩
          · exact var_err h
theorem rdL_err {l : List En} : ∀ (r : List Nd) (τ : Rs), τ.e ≠ 0 → (rdL l r τ).2.e = τ.e ∧ (rdL l r τ).2.at_ = τ.at_
  | [], τ, _ => by simp only [rdL]; exact ⟨trivial, trivial⟩
  | x :: r, τ, h => by
    simp only [rdL]
    obtain ⟨h1, h2⟩ := rd_err (l := l) x τ h
    obtain ⟨h3, h4⟩ := rdL_err (l := l) r (rdT l x τ).2 (by rw [h1]; exact h)
    exact ⟨by rw [h3, h1], by rw [h4, h2]⟩
def upto (a n : Nat) : List Int := (List.range n).map fun i => ((a + i : Nat) : Int)
theorem upto_add (a m n : Nat) : upto a (m + n) = upto a m ++ upto (a + m) n := by
 unfold upto
 rw [List.range_add, List.map_append, List.map_map]
 congr 1
 refine List.map_congr_left fun i _ => ?_
 simp only [Function.comp_apply]
 omega
structure RdOk (l : List En) (p : Pt) (σ τ : Rs) (nd hg : Nat) : Prop where
 good : pgT l p = true
 num : ∃ m, τ.names.length = σ.names.length + m ∧ m ≤ nd ∧ pvT p = upto σ.names.length m
 nd : pndT p ≤ nd
 hg : phgT p ≤ hg
structure RdsOk (l : List En) (p : List Pt) (σ τ : Rs) (nd hg : Nat) : Prop where
 good : pgL l p = true
 num : ∃ m, τ.names.length = σ.names.length + m ∧ m ≤ nd ∧ pvL p = upto σ.names.length m
 nd : pndL p ≤ nd
 hg : phgL p ≤ hg
theorem var_ok {l : List En} {s : ByteArray} {a : Int} {σ : Rs} {nd hg : Nat} (h1 : 1 ≤ nd) (h2 : 1 ≤ hg) (h3 : σ.names.length ≤ 1048576) (he : (varR s a σ).2.e = 0) : RdOk l (varR s a σ).1 σ (varR s a σ).2 nd hg := by
 unfold varR at he ⊢
 split at he
 ·exact absurd he (fail_ne (by decide))
 ·rename_i h
  rw [if_neg h]
  refine ⟨?_, ⟨1, by simp, h1, ?_⟩, ?_, ?_⟩
  ·simp only [pgT, if_pos]
   have e1 : decide ((0 : Int) ≤ (σ.names.length : Int)) = true := decide_eq_true (by omega)
   have e2 : decide ((σ.names.length : Int) ≤ 1048576) = true := decide_eq_true (by omega)
   rw [e1, e2]; rfl
  ·simp [pvT, upto]
  ·simp only [pndT, pndL]; omega
  ·simp only [phgT, phgL]; omega
theorem rd_ok {l : List En} : ∀ (n : Nd) (σ : Rs), goodT n true = true → σ.names.length + ndT n ≤ 1048576 → (rdT l n σ).2.e = 0 → RdOk l (rdT l n σ).1 σ (rdT l n σ).2 (ndT n) (hgT n) := by
  refine Nd.ind ?_
  intro k a s m sub ih σ hg hn he
  have key : ∀ (r : List Nd), (∀ x ∈ r, x ∈ sub) → ∀ τ : Rs, goodL r true = true → τ.names.length + ndL r ≤ 1048576 → (rdL l r τ).2.e = 0 → RdsOk l (rdL l r τ).1 τ (rdL l r τ).2 (ndL r) (hgL r) := by
    intro r
    induction r with
    | nil =>
      intro _ τ _ _ _
      simp only [rdL]
      exact ⟨rfl, ⟨0, by simp, Nat.zero_le _, by simp [pvL, upto]⟩, by simp only [pndL, ndL]; omega, by simp only [phgL, hgL]; omega⟩
    | cons x r ihr =>
      intro hm τ hg hn he
      simp only [rdL] at he ⊢
      simp only [goodL, Bool.and_eq_true] at hg
      simp only [ndL] at hn
      have hxe : (rdT l x τ).2.e = 0 := by
        by_cases h : (rdT l x τ).2.e = 0
        · exact h
        · rw [(rdL_err r _ h).1] at he; exact absurd he h
      obtain ⟨q1, ⟨m1, a1, a2, a3⟩, q3, q4⟩ := ih x (hm x (by simp)) τ hg.1 (by omega) hxe
      obtain ⟨r1, ⟨m2, b1, b2, b3⟩, r3, r4⟩ := ihr (fun y hy => hm y (by simp [hy])) (rdT l x τ).2 hg.2 (by omega) he
      refine ⟨by simp only [pgL, q1, r1]; rfl, ⟨m1 + m2, by omega, by simp only [ndL]; omega, ?_⟩, by simp only [pndL, ndL]; omega, by simp only [phgL, hgL]; omega⟩
      simp only [pvL]
      rw [a3, b3, upto_add, a1]
  have hsmall : 1 ≤ ndT (.mk k a s m sub) ∧ 1 ≤ hgT (.mk k a s m sub) := by simp only [ndT, hgT]; omega
  have hsub : ndT (.mk k a s m sub) = ndL sub + 1 := by simp only [ndT]
  have hsub2 : hgT (.mk k a s m sub) = hgL sub + 1 := by simp only [hgT]
  simp only [rdT] at he ⊢
  by_cases k7 : k = 7
  · rw [if_pos k7] at he ⊢
    exact var_ok hsmall.1 hsmall.2 (by omega) he
  rw [if_neg k7] at he ⊢
  by_cases k9 : k = 9
  · rw [if_pos k9] at he ⊢
    exact ⟨rfl, ⟨0, by simp, Nat.zero_le _, by simp [pvT, pvL, upto]⟩, by simp only [pndT, pndL]; omega, by simp only [phgT, phgL]; omega⟩
  rw [if_neg k9] at he ⊢
  by_cases k10 : k = 10
  · rw [if_pos k10] at he ⊢
    exact ⟨show pgT l (.mk 3 0 a [] (.mk 2 0 [])) = true from show ((0 : Int) == 0 && ((([] : List Pt).length : Int) == 0 && Qad (.mk 2 0 []))) = true by decide +kernel, ⟨0, by simp, Nat.zero_le _, by simp [pvT, pvL, upto]⟩, by simp only [pndT, pndL]; omega, by simp only [phgT, phgL]; omega⟩
  rw [if_neg k10] at he ⊢
  cases hc : conN l s with
  | none =>
    rw [hc] at he
    simp only at he ⊢
    by_cases k8 : k = 8
    · rw [if_pos k8] at he; exact absurd he (fail_ne (by decide))
    · rw [if_neg k8] at he ⊢
      exact var_ok hsmall.1 hsmall.2 (by omega) he
  | some c =>
    rw [hc] at he
    simp only at he ⊢
    by_cases ha : arN l c = (sub.length : Int)
    · rw [if_pos ha] at he ⊢
      have hgs : goodL sub true = true := by
        rcases pat_cases hg with ⟨-, rfl⟩ | ⟨-, rfl⟩ | ⟨-, rfl⟩ | ⟨h, -⟩ | ⟨-, h⟩
        · rfl
        · rfl
        · rfl
        · exact absurd h k10
        · exact h
      obtain ⟨q1, ⟨m1, a1, a2, a3⟩, q3, q4⟩ := key sub (fun x h => h) σ hgs (by omega) he
      have hlen : ∀ (r : List Nd) (τ : Rs), (rdL l r τ).1.length = r.length := by
        intro r
        induction r with
        | nil => intro τ; simp only [rdL]; rfl
        | cons x r ihr => intro τ; simp only [rdL, List.length_cons, ihr]
      refine ⟨?_, ⟨m1, a1, by omega, ?_⟩, by simp only [pndT]; omega, by simp only [phgT]; omega⟩
      · simp only [pgT]
        rw [if_neg (by decide), if_neg (by decide), if_neg (by decide), if_pos (by trivial), hlen, ha, q1]
        simp [zTm, Qbs]
      · simp only [pvT]
        rw [if_neg (by decide)]; exact a3
    · rw [if_neg ha] at he; exact absurd he (fail_ne (by decide))
theorem rdL_ok {l : List En} : ∀ (r : List Nd) (τ : Rs), (∀ x ∈ r, goodT x true = true) → τ.names.length + ndL r ≤ 1048576 → (rdL l r τ).2.e = 0 → (∀ p ∈ (rdL l r τ).1, pgT l p = true) ∧ ∃ m, (rdL l r τ).2.names.length = τ.names.length + m ∧ pvL (rdL l r τ).1 = upto τ.names.length m
  | [], τ, _, _, _ => by
    simp only [rdL]
    exact ⟨by simp, 0, by simp, by simp [pvL, upto]⟩
  | x :: r, τ, hg, hn, he => by
    simp only [rdL] at he ⊢
    simp only [ndL] at hn
    have hxe : (rdT l x τ).2.e = 0 := by
      by_cases h : (rdT l x τ).2.e = 0
      · exact h
      · rw [(rdL_err r _ h).1] at he; exact absurd he h
    obtain ⟨q1, ⟨m1, a1, a2, a3⟩, q3, q4⟩ := rd_ok x τ (hg x (by simp)) (by omega) hxe
    obtain ⟨r1, m2, b1, b2⟩ := rdL_ok r (rdT l x τ).2 (fun y hy => hg y (by simp [hy])) (by omega) he
    refine ⟨fun p hp => ?_, m1 + m2, by omega, ?_⟩
    · rcases List.mem_cons.1 hp with rfl | hp
      · exact q1
      · exact r1 p hp
    · simp only [pvL]
      rw [a3, b2, upto_add, a1]
theorem upto_nodup (a n : Nat) : (upto a n).Nodup := by
 unfold upto
 rw [List.nodup_iff_pairwise_ne, List.pairwise_map]
 exact (List.nodup_iff_pairwise_ne.1 List.nodup_range).imp fun h e => h (by omega)
theorem node24_any : ∀ (t : Nd) (cs : List Value) (l : Int) (w : World), -9000 < l → l ≤ 1000 → NdC w t cs →
  Calls Tryz.prog 31 #[.agg cs.toArray, .int .i64 l] w fun e w' => ∃ v, e = .returned (.tuple #[.agg #[.int .i64 t.kind, .int .i64 t.at, .string t.name, .int .i64 t.num, v], .int .i64 (budT t l).2]) ∧ RepS (fun b => w.heap.size ≤ b) w' v (budT t l).1.sub ∧ Below w.heap.size w w' := by
 obtain ⟨i0, hi, hz0, hz1, hz2⟩ := info_parts infoR
 refine Nd.ind ?_
 intro kk aa ss n sub ih cs l w hl0 hl1 ht
 obtain ⟨a, cap, rfl, hsub, hlen, hnsa⟩ := nd_open ht
 have hbk := (bud_kind (.mk kk aa ss n sub) l).2
 generalize (budT (.mk kk aa ss n sub) l).1.sub = R at hbk ⊢
 generalize (budT (.mk kk aa ss n sub) l).2 = X at hbk ⊢
 simp only [Nd.kind, Nd.at, Nd.name, Nd.num, Nd.sub] at hsub hlen hnsa hbk ⊢
 have BK := Lib.hid hbk
 clear hbk
 have IH := Lib.hid ih
 clear ht ih
 go_enter Tryz.func31, Tryz.ntmps31
 go_wp2_with fail
 go_loopw [1, 7] (fun g i wr => ∃ (k : Nat) (v : Value) (rs : List Nd) (x : Int), k ≤ sub.length ∧ i = .int .i64 k ∧ g = .int .i64 x ∧ -9000 ≤ x ∧ x ≤ 1000 ∧ Own (fun b => w.heap.size + 3 ≤ b) 64 (w.heap.size + 3) v rs wr ∧ Hid (budL sub (l - 1) = (rs ++ (budL (sub.drop k) x).1, (budL (sub.drop k) x).2)) ∧ Box5 68 wr w.heap.size (.int .i64 kk) (.int .i64 aa) (.string ss) (.int .i64 n) (.slice a sub.length cap) ∧ Box5 64 wr (w.heap.size + 1) (.int .i64 0) (.int .i64 0) (.string ByteArray.empty) (.int .i64 0) (.slice none 0 0) ∧ Box5 64 wr (w.heap.size + 2) (.int .i64 kk) (.int .i64 aa) (.string ss) (.int .i64 n) v ∧ Below w.heap.size w wr ∧ w.heap.size + 3 ≤ wr.heap.size) (fun _ i _ => sub.length - (intOf i).toNat)
 case atStart =>
  obtain ⟨h1, h2, h3, h4, h5⟩ := boxes3 w #[.int .i64 kk, .int .i64 aa, .string ss, .int .i64 n, .slice a sub.length cap] #[.int .i64 0, .int .i64 0, .string ByteArray.empty, .int .i64 0, .slice none 0 0] #[.int .i64 kk, .int .i64 aa, .string ss, .int .i64 n, .slice none 0 0] 68 64 64
  exact ⟨0, _, [], l - 1, Nat.zero_le _, rfl, by go_num, by omega, by omega, Own.nil, rfl, h1, h2, h3, h4, h5⟩
 case round =>
  obtain ⟨k, v, rs, x, hk, rfl, rfl, hx0, hx1, hown, HG, b1, b2, b3, hbw, hsz⟩ := hrel
  obtain ⟨c0, c1, c2, c3, c4⟩ := b1.cells
  by_cases hlt : k < sub.length ∧ -9000 < x
  ·obtain ⟨hlt, hx⟩ := hlt
   obtain ⟨bb, off, a', cap', rfl, e0, e1, e2, e3, e4, hts⟩ := sub_at hsub hbw k hlt
   have hnsk : sub[k].name.size ≤ maxLen := by obtain ⟨_, _, _, _, _, h⟩ := nd_open hts; exact h
   have hnext : Hid (budL sub (l - 1) = ((rs ++ [(budT sub[k] x).1]) ++ (budL (sub.drop (k + 1)) (budT sub[k] x).2).1, (budL (sub.drop (k + 1)) (budT sub[k] x).2).2)) := by
    have h := HG.out
    rw [List.drop_eq_getElem_cons hlt] at h
    simp only [budL] at h
    rw [if_pos hx] at h
    show _ = _
    rw [h, List.append_assoc]; rfl
   have hcnt : Hid (rs.length + 1 ≤ 20000) := by
    have h := congrArg (fun p => p.1.length) hnext.out
    have h2 := budL_count sub (l - 1)
    simp only [List.length_append, List.length_singleton] at h
    show _ ≤ _
    omega
   have hlo := bud_lo sub[k] x hx
   have hhi := (bud_facts sub[k] x).1
   have HO := Lib.hid hown
   have HBW := Lib.hid hbw
   have B1r := Lib.hid b1
   have B2r := Lib.hid b2
   have B3r := Lib.hid b3
   have HTS := Lib.hid hts
   clear hown b1 b2 b3 hts HG hbw
   go_wp2_with fail
   refine (IH.out _ (List.getElem_mem hlt) _ x _ hx hx1 HTS.out).mono ?_
   rintro e w1 ⟨v1, rfl, hrep, hb1⟩
   obtain ⟨a1, n1, c1, rfl⟩ := hrep.form
   have hs1 := hb1.size
   have hw2 : Below wr.heap.size wr (w1.alloc (.cells #[.int .i64 sub[k].kind, .int .i64 sub[k].at, .string sub[k].name, .int .i64 sub[k].num, .slice a1 n1 c1] 64)) := hb1.alloc hs1 _
   have hzw : wr.heap.size + 1 ≤ (w1.alloc (.cells #[.int .i64 sub[k].kind, .int .i64 sub[k].at, .string sub[k].name, .int .i64 sub[k].num, .slice a1 n1 c1] 64)).heap.size := by simp; omega
   have b3w := B3r.out.later hw2 (by omega)
   obtain ⟨g0, g1, g2, g3, g4⟩ := b3w.cells
   have fz4 := b3w.free 4
   have hrep2 : Rep (fun b => wr.heap.size ≤ b) (w1.alloc (.cells #[.int .i64 sub[k].kind, .int .i64 sub[k].at, .string sub[k].name, .int .i64 sub[k].num, .slice a1 n1 c1] 64)) (budT sub[k] x).1 [.int .i64 sub[k].kind, .int .i64 sub[k].at, .string sub[k].name, .int .i64 sub[k].num, .slice a1 n1 c1] := by
    have hk := (bud_kind sub[k] x).1
    have h := (rep_nd (t := .mk sub[k].kind sub[k].at sub[k].name sub[k].num (budT sub[k] x).1.sub)).2 ⟨_, rfl, hnsk, hrep⟩
    rw [hk]
    exact h.later ((Below.refl _ _).alloc (Nat.le_refl _) _)
   have hown2 := HO.out.later hw2
   have hlt2 := HO.out.lt
   have E1 := boxes1 (w1.alloc (.cells #[.int .i64 sub[k].kind, .int .i64 sub[k].at, .string sub[k].name, .int .i64 sub[k].num, .slice a1 n1 c1] 64)) #[.int .i64 sub[k].kind, .int .i64 sub[k].at, .string sub[k].name, .int .i64 sub[k].num, .slice a1 n1 c1] 64
   have hone := (RepS.one (T := 64) hrep2).sub (S' := fun b => wr.heap.size ≤ b) fun b hb _ => by
    rcases hb with hb | hb
    ·exact hb
    ·omega
   have hown3 := hown2.later E1.2.1
   have hS3 : ∀ d ∈ [(budT sub[k] x).1], ∀ cs, Rep (fun b => wr.heap.size ≤ b) ((w1.alloc (.cells #[.int .i64 sub[k].kind, .int .i64 sub[k].at, .string sub[k].name, .int .i64 sub[k].num, .slice a1 n1 c1] 64)).alloc (.cells #[.int .i64 sub[k].kind, .int .i64 sub[k].at, .string sub[k].name, .int .i64 sub[k].num, .slice a1 n1 c1] 64)) d cs → Rep (fun b => w.heap.size + 3 ≤ b ∧ v.ownBlock ≠ some b) ((w1.alloc (.cells #[.int .i64 sub[k].kind, .int .i64 sub[k].at, .string sub[k].name, .int .i64 sub[k].num, .slice a1 n1 c1] 64)).alloc (.cells #[.int .i64 sub[k].kind, .int .i64 sub[k].at, .string sub[k].name, .int .i64 sub[k].num, .slice a1 n1 c1] 64)) d cs :=
    fun d _ cs h => h.sub fun b hb _ => ⟨by omega, fun e => by have := (hlt2 b e).2; omega⟩
   have HO3 := Lib.hid hown3
   rw [show (w1.alloc (.cells #[.int .i64 sub[k].kind, .int .i64 sub[k].at, .string sub[k].name, .int .i64 sub[k].num, .slice a1 n1 c1] 64)).heap.size = w1.heap.size + 1 from by simp] at hone
   have HONE := Lib.hid hone
   have HS3 := Lib.hid hS3
   have HZ3 := Lib.hid (show w.heap.size + 3 ≤ ((w1.alloc (.cells #[.int .i64 sub[k].kind, .int .i64 sub[k].at, .string sub[k].name, .int .i64 sub[k].num, .slice a1 n1 c1] 64)).alloc (.cells #[.int .i64 sub[k].kind, .int .i64 sub[k].at, .string sub[k].name, .int .i64 sub[k].num, .slice a1 n1 c1] 64)).heap.size by have := E1.2.2; omega)
   have HW3 := Lib.hid (hw2.trans (E1.2.1.mono (by omega)))
   clear hown2 hlt2 hone hown3 hS3 E1 hrep2 hrep hw2 hzw hb1 b3w
   have HLO := Lib.hid hlo
   have HHI := Lib.hid hhi
   clear hlo hhi
   have hz0r := Lib.hid hsz
   go_wp2_with (at_builtin; refine wpList_push rfl _ _ 62 rfl 64 i0 (.agg #[.int .i64 0, .int .i64 0, .string ByteArray.empty, .int .i64 0, .slice none 0 0]) 64 Tryz.underlying62 hi hz0 hz1 hz2 rfl (by decide) HO3.out _ [(budT sub[k] x).1] HONE.out (by rfl) (by rfl) HS3.out (by have := hcnt.out; unfold maxLen; simp; omega) (by have := hcnt.out; simp; omega) HZ3.out ?_; intro v2 w2 hown2 hb2 hg2 hap2; obtain ⟨g2, cp2, rfl, -⟩ := hown2.some (by simp); have q3 := Lib.hid ((B3r.out.later HW3.out (by omega)).later hb2 (by omega)); obtain ⟨y0, y1, y2, y3, y4⟩ := q3.out.cells; have y5 := q3.out.free 4; replace hown2 := Lib.hid hown2; replace hb2 := Lib.hid hb2)
   clear hg2 hap2
   have hbf := HBW.out.trans ((HW3.out.mono HBW.out.size).trans (hb2.out.mono (by omega)))
   have HLT := Lib.hid hlt
   go_roundw
   case rel =>
    have hlo := HLO.out
    have hhi := HHI.out
    have hz4 := hb2.out.size
    have hz3 := HZ3.out
    refine ⟨k + 1, _, rs ++ [(budT sub[k] x).1], (budT sub[k] x).2, by omega, by go_num, rfl, by omega, by omega, hown2.out.move fun b hb _ => Below.heap_setCell _ _ _ _ (by show b ≠ w.heap.size + 2; omega), hnext, ?_, ?_, by rw [List.length_append]; exact q3.out.set4 _, hbf.setCell (by show w.heap.size ≤ w.heap.size + 2; omega) _, by simp; omega⟩
    ·exact Box5.set_ne ((B1r.out.later HW3.out (by omega)).later hb2.out (by omega)) (by show w.heap.size ≠ w.heap.size + 2; omega) _
    ·exact Box5.set_ne ((B2r.out.later HW3.out (by omega)).later hb2.out (by omega)) (by show w.heap.size + 1 ≠ w.heap.size + 2; omega) _
   case measure => have := HLT.out; simp [intOf]; omega
  ·have hend : budL (sub.drop k) x = ([], x) := by
    by_cases h1 : k < sub.length
    ·rw [List.drop_eq_getElem_cons h1]; simp only [budL]; rw [if_neg (by omega)]
    ·rw [List.drop_of_length_le (by omega)]; rfl
   have h := HG.out
   rw [hend] at h
   have hb := BK.out
   rw [h] at hb
   have HRS : Hid (rs = R ∧ x = X) := ⟨by rw [hb.1]; simp, hb.2.symm⟩
   obtain ⟨d0, d1, d2, d3, d4⟩ := b2.cells
   obtain ⟨g0, g1, g2, g3, g4⟩ := b3.cells
   have f0 := b2.free 0
   have f1 := b2.free 1
   have f2 := b2.free 2
   have f3 := b2.free 3
   have f4 := b2.free 4
   obtain ⟨av, cv, rfl⟩ := hown.shape
   have hres : RepS (fun b => w.heap.size ≤ b) (set5 wr (w.heap.size + 1) (.int .i64 kk) (.int .i64 aa) (.string ss) (.int .i64 n) (.slice av rs.length cv)) (.slice av rs.length cv) rs :=
    RepS.move (fun b hb _ => ⟨by omega, by rw [set5_heap _ _ _ _ _ _ _ _ (by omega)]⟩) hown.done
   have HRES := Lib.hid hres
   have hbf : Below w.heap.size w (set5 wr (w.heap.size + 1) (.int .i64 kk) (.int .i64 aa) (.string ss) (.int .i64 n) (.slice av rs.length cv)) := set5_below hbw (by omega) _ _ _ _ _
   have HBF := Lib.hid hbf
   clear h hb hend HG hres hbf b1 b2 b3 hbw hown
   rcases (show (k < sub.length ∧ x ≤ -9000) ∨ sub.length ≤ k by omega) with ⟨h1, h2⟩ | h1
   all_goals
    clear hlt
    go_wp2_with fail
    exact bodyPost_ret (v := .tuple #[.agg #[.int .i64 kk, .int .i64 aa, .string ss, .int .i64 n, .slice av rs.length cv], .int .i64 x]) (by simp [results, Tryz.results31, go_sem, d0, d1, d2, d3, d4]) rfl ⟨_, by rw [HRS.out.2], by rw [← HRS.out.1]; exact HRES.out, HBF.out⟩
theorem node24_p (t : Nd) (l : Int) (h0 : -9000 < l) (h1 : l ≤ 1000) : PCalls Tryz.prog 31 [aggD t, .d (.v (.int .i64 l))] [] fun p s => p = .tup [aggD (budT t l).1, .d (.v (.int .i64 (budT t l).2))] ∧ s = [] := by
  refine PCalls.data fun K w vs ha => ?_
  obtain ⟨v, u, rfl, hv, hu⟩ := ha.two
  obtain ⟨cs, rfl, hc⟩ := agg_nd hv
  obtain ⟨hu1, -⟩ := hu.flat
  subst hu1
  have hns : t.name.size ≤ maxLen := by obtain ⟨_, _, _, _, _, h⟩ := nd_open hc; exact h
  refine (node24_any t cs l w h0 h1 hc).mono ?_
  rintro e w' ⟨u, rfl, hr, hb⟩
  refine ⟨_, rfl, hb, fun K' hK => ?_⟩
  refine tup2 ?_ (.d (.v trivial))
  have : Rep (fun b => w.heap.size ≤ b) w' (budT t l).1 [.int .i64 t.kind, .int .i64 t.at, .string t.name, .int .i64 t.num, u] := by
    cases t with
    | mk k a s n sub =>
      rw [show budT (.mk k a s n sub) l = (.mk k a s n (budL sub (l - 1)).1, (budL sub (l - 1)).2) by simp only [budT]] at hr ⊢
      exact rep_nd.2 ⟨u, rfl, hns, hr⟩
  exact rel_rep (fun b o v h1 h2 => hK b o v h1 h2) this
end Go.Proofs.YtdklpbefbamchaaGreat

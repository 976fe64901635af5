import Derived.Test.YtffgfjnbgplckaaD1
import Derived.Test.YtffgfjnbgplckaaNd1
namespace Go.Proofs.Ytffgfjnbgplckaa
open Go.RowKit
variable {S S' : Nat → Prop} {w w' : World}
mutual
def ndD : Nd → List Dt
  | .mk k a s n sub => [.v (.int .i64 k), .v (.int .i64 a), .str s, .v (.int .i64 n), .s 5 (ndDs sub)]
def ndDs : List Nd → List (List Dt)
  | [] => []
  | t :: ts => ndD t :: ndDs ts
end
theorem ndDs_map (l : List Nd) : ndDs l = l.map ndD := by
  induction l with
  | nil => rfl
  | cons t ts ih => simp only [ndDs, List.map_cons, ih]
instance : Enc Nd := ⟨5, ndD, fun a => by cases a; simp only [ndD]; rfl⟩
theorem rep_nd {t : Nd} {cs : List Value} : Rep S w t cs ↔ ∃ v, cs = [.int .i64 t.kind, .int .i64 t.at, .string t.name, .int .i64 t.num, v] ∧ t.name.size ≤ maxLen ∧ RepS S w v t.sub := by
  cases t with
  | mk k a s n sub =>
  unfold Rep RepS
  simp only [Enc.enc, Enc.sz, ndD, ndDs_map, RepF, Nd.kind, Nd.at, Nd.name, Nd.num, Nd.sub]
  constructor
  · rintro ⟨c, cr, rfl, h1, c, cr, rfl, h2, c, cr, rfl, h3, c, cr, rfl, h4, c, cr, rfl, h5, rfl⟩
    simp only [RepV] at h1 h2 h3 h4
    obtain ⟨rfl, -⟩ := h1
    obtain ⟨rfl, -⟩ := h2
    obtain ⟨rfl, h3⟩ := h3
    obtain ⟨rfl, -⟩ := h4
    exact ⟨_, rfl, h3, h5⟩
  · rintro ⟨v, rfl, h3, h5⟩
    exact ⟨_, _, rfl, by simp [RepV, Value.oneCell'], _, _, rfl, by simp [RepV, Value.oneCell'], _, _, rfl, by simp [RepV, h3], _, _, rfl, by simp [RepV, Value.oneCell'], _, _, rfl, h5, rfl⟩
theorem Rep.toC : ∀ (t : Nd) (cs : List Value), Rep S w t cs → NdC w t cs := by
  refine Nd.ind ?_
  intro k a s n sub ih cs h
  obtain ⟨v, rfl, h1, h2⟩ := rep_nd.1 h
  refine NdC.iff.2 ⟨v, rfl, h1, ?_⟩
  simp only [Nd.sub] at h2
  obtain ⟨css, h3, h4⟩ := h2.open
  refine ⟨css, h3.toN, NdCs.mk (by simpa using h4.length) fun i hi => ?_⟩
  obtain ⟨c, hc, hr⟩ := h4.get i (by simpa using hi)
  simp only [List.getElem_map] at hr
  exact ⟨c, hc, ih _ (List.getElem_mem _) c hr⟩
theorem RepS.toC {v : Value} {l : List Nd} (h : RepS S w v l) : NdS w v l := by
  obtain ⟨css, h3, h4⟩ := h.open
  refine ⟨css, h3.toN, NdCs.mk (by simpa using h4.length) fun i hi => ?_⟩
  obtain ⟨c, hc, hr⟩ := h4.get i (by simpa using hi)
  simp only [List.getElem_map] at hr
  exact ⟨c, hc, Rep.toC _ _ hr⟩
theorem repS_of {v : Value} {l : List Nd} (hl : ∀ t ∈ l, ∀ cs, NdC w t cs → Rep (fun _ => True) w t cs) (h : NdS w v l) : RepS (fun _ => True) w v l := by
  obtain ⟨css, ⟨a, cap, h1, h2, h3, h4⟩, h5⟩ := h
  have hlen := h5.length
  refine RepS.mk (css := css) ⟨a, cap, h1, h2, h3, fun hne => ?_⟩ (RepL.mk (by simpa using hlen) fun i hi => ?_)
  · obtain ⟨b, off, ha, hc⟩ := h4 hne
    have hpos : 0 < l.length := by
      rw [← hlen]; exact List.length_pos_iff.2 hne
    obtain ⟨c, hc0, hn⟩ := h5.get 0 hpos
    obtain ⟨s, rfl, _, _⟩ := hn.open
    have h6 := (hc 0 _ hc0).2 0 _ rfl
    exact ⟨b, off, ha, trivial, World.block_lt_of_cell? w _ h6, hc⟩
  · obtain ⟨c, hc, hn⟩ := h5.get i (by simpa using hi)
    refine ⟨c, hc, ?_⟩
    simp only [List.getElem_map]
    exact hl _ (List.getElem_mem _) c hn
theorem NdC.toR : ∀ (t : Nd) (cs : List Value), NdC w t cs → Rep (fun _ => True) w t cs := by
  refine Nd.ind ?_
  intro k a s n sub ih cs h
  obtain ⟨v, rfl, h1, h2⟩ := NdC.iff.1 h
  exact rep_nd.2 ⟨v, rfl, h1, repS_of ih h2⟩
theorem NdS.toR {v : Value} {l : List Nd} (h : NdS w v l) : RepS (fun _ => True) w v l := repS_of (fun t _ => NdC.toR t) h
end Go.Proofs.Ytffgfjnbgplckaa

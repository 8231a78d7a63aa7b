/- Layer 11: Segs. -/
import Derived.Test.YtngglpekdjhbdaaGreatWzAb
namespace Go.Proofs.YtngglpekdjhbdaaGreat
open Go.RowKit Go.ChangeMaps Go.Deep Tr
set_option linter.unusedSimpArgs false
set_option linter.unusedVariables false
set_option maxRecDepth 20000
attribute [local go_sem] Oper.semAt_some

/-- the items that meet a span, as segments, in order -/
theorem over_told {T : Tr} {vs : List Int} {E : List (It × Int)} {gf : Int → Int} {a b : Int} (hs : T.srt) (hp : (T.items.map (valOf vs)).Perm E) (hok : SgOk (E.map sg)) (hrep : Rep (E.map sg) gf) (hab : a < b) :
    SegsTo gf a b (addS (((over a b T).map (fun x => sg (valOf vs x))).foldl (stepS b) ([], a)) b 0).1 := by
  have hin : ∀ x ∈ T.items, sg (valOf vs x) ∈ E.map sg := fun x hx => List.mem_map_of_mem (hp.mem_iff.1 (List.mem_map_of_mem hx))
  have hov : ∀ x ∈ over a b T, x ∈ T.items ∧ a < x.t ∧ x.f < b := fun x hx => by
    obtain ⟨h1, h2⟩ := List.mem_filter.1 hx
    simp only [Bool.and_eq_true, decide_eq_true_eq] at h2
    exact ⟨h1, h2⟩
  have hpd : (T.items.map (fun x => sg (valOf vs x))).Pairwise dis := by
    have : T.items.map (fun x => sg (valOf vs x)) = (T.items.map (valOf vs)).map sg := by rw [List.map_map]; rfl
    rw [this]
    exact ((hp.map sg).pairwise_iff (fun h => h.symm)).2 hok.pair
  refine told_all hab (fun s hs' => ?_) ?_ (fun s hs' r hr' e => ?_) (fun s hs' d h1 h2 => ?_) (fun d h1 h2 hn => ?_)
  · obtain ⟨x, hx, rfl⟩ := List.mem_map.1 hs'
    obtain ⟨h1, h2, h3⟩ := hov x hx
    have := hok.one _ (hin x h1)
    exact ⟨h2, h3, this.2.1, this.2.2.2⟩
  · rw [List.pairwise_map]
    have h1 : (over a b T).Pairwise Lt := List.Pairwise.sublist List.filter_sublist hs
    have h2 : (over a b T).Pairwise (fun x y => dis (sg (valOf vs x)) (sg (valOf vs y))) := by
      rw [List.pairwise_map] at hpd
      exact List.Pairwise.sublist List.filter_sublist hpd
    refine List.Pairwise.imp_of_mem (fun {x y} hx hy h => ?_) (h1.and h2)
    obtain ⟨h3, h4⟩ := h
    have o1 := hok.one _ (hin x (hov x hx).1)
    have o2 := hok.one _ (hin y (hov y hy).1)
    have hle := (ordI_neg.1 h3)
    have e1 : (sg (valOf vs x)).f = x.f := rfl
    have e2 : (sg (valOf vs x)).t = x.t := rfl
    have e3 : (sg (valOf vs y)).f = y.f := rfl
    have e4 : (sg (valOf vs y)).t = y.t := rfl
    unfold dis at h4
    rw [e1, e2] at o1
    rw [e3, e4] at o2
    rw [e1, e2, e3, e4] at h4
    rw [e2, e3]
    omega
  · obtain ⟨x, hx, rfl⟩ := List.mem_map.1 hs'
    obtain ⟨y, hy, rfl⟩ := List.mem_map.1 hr'
    exact hok.unlike _ (hin x (hov x hx).1) _ (hin y (hov y hy).1) e
  · obtain ⟨x, hx, rfl⟩ := List.mem_map.1 hs'
    exact (hrep d).1 _ (hin x (hov x hx).1) h1 h2
  · refine (hrep d).2 fun s hs' hc => ?_
    obtain ⟨e, he, rfl⟩ := List.mem_map.1 hs'
    obtain ⟨x, hx, rfl⟩ := List.mem_map.1 (hp.mem_iff.2 he)
    have e1 : (sg (valOf vs x)).f = x.f := rfl
    have e2 : (sg (valOf vs x)).t = x.t := rfl
    rw [e1, e2] at hc
    refine hn (sg (valOf vs x)) (List.mem_map_of_mem (List.mem_filter.2 ⟨hx, ?_⟩)) ⟨hc.1, hc.2⟩
    simp only [Bool.and_eq_true, decide_eq_true_eq]
    omega
theorem addS_len (o : List Sg × Int) (t v : Int) : (addS o t v).1.length ≤ o.1.length + 1 := by unfold addS; split <;> simp
theorem stepS_len (b : Int) : ∀ (l : List Sg) (o : List Sg × Int), (l.foldl (stepS b) o).1.length ≤ o.1.length + 2 * l.length
  | [], o => by simp
  | x :: l, o => by
    have h1 := stepS_len b l (stepS b o x)
    have h2 : (stepS b o x).1.length ≤ o.1.length + 2 := by
      have h3 := addS_len o x.f 0
      have h4 := addS_len (addS o x.f 0) (min x.t b) x.v
      unfold stepS
      omega
    simp only [List.foldl_cons, List.length_cons]
    omega
end Go.Proofs.YtngglpekdjhbdaaGreat

/- Graph, plain: what stands on what; a link more, and rings. No program is named here. -/
import Derived.Test.YtefaihockgebeaaGreatGrB
namespace Go.Proofs.YtefaihockgebeaaGreat
set_option linter.unusedSimpArgs false
set_option linter.unusedVariables false

/-- field k stands on field i, by links -/
inductive Stands (L : Lks) : Int → Int → Prop
  | self (i : Int) : Stands L i i
  | step {k j i : Int} {x : Sp} (hx : x ∈ linksOf L k.toNat) (e : x.1 = j) (h : Stands L j i) : Stands L k i
theorem Stands.trans {L : Lks} {a b c : Int} (h : Stands L a b) (k : Stands L b c) : Stands L a c := by
  induction h with
  | self => exact k
  | step hx e _ ih => exact .step hx e (ih k)
/-- all links lead to fields -/
def LinksIn (L : Lks) (n : Nat) : Prop := ∀ k, k < n → ∀ x ∈ linksOf L k, 0 ≤ x.1 ∧ x.1 < n
/-- in an order, what a field stands on comes ahead -/
theorem Ordered.stands {L : Lks} {n : Nat} {out : List Int} (h : Ordered L n out) {k i : Int} (hs : Stands L k i) : k ∈ out → i ∈ out := by
  induction hs with
  | self => exact id
  | step hx e _ ih =>
    intro hk
    obtain ⟨a, b, hab⟩ := List.append_of_mem hk
    refine ih ?_
    rw [← e, hab]
    exact List.mem_append.2 (.inl (h.links a _ b hab _ hx))
theorem Ordered.ahead {L : Lks} {n : Nat} {out : List Int} (h : Ordered L n out) {a b : List Int} {k : Int} (e : out = a ++ k :: b) {i : Int} (hs : Stands L k i) : i = k ∨ i ∈ a := by
  cases hs with
  | self => exact .inl rfl
  | step hx e2 h2 =>
    refine .inr ?_
    have hm := h.links a k b e _ hx
    rw [e2] at hm
    have ho : Ordered L n a := by
      refine ⟨?_, fun z hz => h.below z (by rw [e]; exact List.mem_append.2 (.inl hz)), fun c i d e3 => h.links c i (d ++ k :: b) (by rw [e, e3]; simp)⟩
      have := h.nodup
      rw [e, List.nodup_append] at this
      exact this.1
    exact ho.stands h2 hm
/-- no field of an order stands on one that stands on it -/
theorem Ordered.noRing {L : Lks} {n : Nat} {out : List Int} (h : Ordered L n out) {k j : Int} {x : Sp} (hk : k ∈ out) (hx : x ∈ linksOf L k.toNat) (e : x.1 = j) (hs : Stands L j k) : False := by
  obtain ⟨a, b, hab⟩ := List.append_of_mem hk
  have hm := h.links a k b hab _ hx
  rw [e] at hm
  obtain ⟨c, d, hcd⟩ := List.append_of_mem hm
  have hn := h.nodup
  rw [hab, List.nodup_append] at hn
  have hk : k ∈ a := by
    rcases h.ahead (a := c) (b := d ++ k :: b) (by rw [hab, hcd]; simp) hs with rfl | hc
    · exact hm
    · rw [hcd]; exact List.mem_append.2 (.inl hc)
  exact hn.2.2 k hk k (.head _) rfl
/-- a set of fields each of which has a link into the set leaves no order of all -/
theorem stuck {L : Lks} {n : Nat} {out : List Int} (h : Ordered L n out) (hf : n ≤ out.length) (R : Int → Prop) (hR : ∀ z, R z → 0 ≤ z ∧ z < n ∧ ∃ x ∈ linksOf L z.toNat, R x.1) : ∀ z, ¬ R z := by
  have key : ∀ (m : Nat) (a b : List Int) (z : Int), a.length = m → out = a ++ z :: b → ¬ R z := by
    intro m
    induction m using Nat.strongRecOn with
    | _ m ih =>
      intro a b z hm e hz
      obtain ⟨h0, h1, x, hx, hr⟩ := hR z hz
      have hin := h.links a z b e x hx
      obtain ⟨c, d, hcd⟩ := List.append_of_mem hin
      refine ih c.length ?_ c (d ++ z :: b) x.1 rfl (by rw [e, hcd]; simp) hr
      rw [← hm, hcd]; simp
  intro z hz
  obtain ⟨h0, h1, _⟩ := hR z hz
  obtain ⟨a, b, hab⟩ := List.append_of_mem (below_full h.nodup h.below hf h0 h1)
  exact key a.length a b z rfl hab hz
/-- one link more -/
theorem ring_more {L M : Lks} {n : Nat} (hL : n ≤ (orderR L n).length) {i k : Int} (hi : 0 ≤ i) (hin : i < n) (hk : 0 ≤ k) (hkn : k < n)
    (hM : ∀ z : Int, 0 ≤ z → z < n → ∀ t, (∃ x ∈ linksOf M z.toNat, x.1 = t) ↔ ((∃ x ∈ linksOf L z.toNat, x.1 = t) ∨ (z = i ∧ t = k))) (hLI : LinksIn L n) :
    (orderR M n).length = n ↔ ¬ Stands L k i := by
  have hoL := orderR_ordered L n
  have hoM := orderR_ordered M n
  constructor
  · intro hl hs
    have lift : ∀ {a b : Int}, Stands L a b → 0 ≤ a → a < n → Stands M a b := by
      intro a b h
      induction h with
      | self => intro _ _; exact .self _
      | step hx e _ ih =>
        intro h0 h1
        obtain ⟨y, hy, e2⟩ := (hM _ h0 h1 _).2 (.inl ⟨_, hx, rfl⟩)
        have := hLI _ (by omega) _ hx
        rw [e] at this
        exact .step hy (e2.trans e) (ih this.1 this.2)
    obtain ⟨y, hy, e⟩ := (hM i hi hin k).2 (.inr ⟨rfl, rfl⟩)
    exact hoM.noRing (below_full hoM.nodup hoM.below (by omega) hi hin) hy e (lift hs hk hkn)
  · intro hs
    refine Classical.byContradiction fun hne => ?_
    have hlt : (orderR M n).length < n := by have := orderR_length M n; omega
    have hdry := orderR_dry M n
    -- what is left over: each has a link to one that is left over
    have hleft : ∀ z : Int, 0 ≤ z → z < n → z ∉ orderR M n → ∃ x ∈ linksOf M z.toNat, x.1 ∉ orderR M n := by
      intro z h0 h1 hz
      refine Classical.byContradiction fun hno => hdry z ⟨z.toNat, by omega, by omega, hz, fun x hx => ?_⟩
      exact Classical.byContradiction fun hx2 => hno ⟨x, hx, hx2⟩
    -- those left over that k stands on
    by_cases hkl : k ∈ orderR M n
    · have hnone := stuck hoL hL (fun z => 0 ≤ z ∧ z < n ∧ z ∉ orderR M n) (fun z ⟨h0, h1, hz⟩ => by
        obtain ⟨x, hx, hx2⟩ := hleft z h0 h1 hz
        rcases (hM z h0 h1 x.1).1 ⟨x, hx, rfl⟩ with ⟨y, hy, e⟩ | ⟨rfl, e⟩
        · have := hLI z.toNat (by omega) y hy
          exact ⟨h0, h1, y, hy, this.1, this.2, by rw [e]; exact hx2⟩
        · rw [e] at hx2; exact (hx2 hkl).elim)
      have : n ≤ (orderR M n).length := by
        have hh := nodup_length (l := upTo n) (m := orderR M n) (by
          unfold upTo
          rw [List.nodup_iff_pairwise_ne, List.pairwise_map]
          exact (List.nodup_iff_pairwise_ne.1 List.nodup_range).imp fun h e => h (by omega)) fun z hz => by
          obtain ⟨h0, h1⟩ := mem_upTo.1 hz
          exact Classical.byContradiction fun h2 => hnone z ⟨h0, h1, h2⟩
        rwa [upTo_length] at hh
      omega
    · refine stuck hoL hL (fun z => 0 ≤ z ∧ z < n ∧ z ∉ orderR M n ∧ Stands L k z) (fun z ⟨h0, h1, hz, hs2⟩ => ?_) k ⟨hk, hkn, hkl, .self k⟩
      obtain ⟨x, hx, hx2⟩ := hleft z h0 h1 hz
      rcases (hM z h0 h1 x.1).1 ⟨x, hx, rfl⟩ with ⟨y, hy, e⟩ | ⟨rfl, e⟩
      · have := hLI z.toNat (by omega) y hy
        exact ⟨h0, h1, y, hy, this.1, this.2, by rw [e]; exact hx2, hs2.trans (.step hy rfl (.self _))⟩
      · exact (hs hs2).elim
end Go.Proofs.YtefaihockgebeaaGreat

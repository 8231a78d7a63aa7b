/- DiskTorn, the plain part: what the disk holds behind k writes of which a crash comes at one. -/
import Derived.Test.YtnoookcfacmdkaaDiskD
namespace Go.Proofs.Ytnoookcfacmdkaa
set_option linter.unusedSimpArgs false
set_option linter.unusedVariables false

/-- Behind k writes: the disk D, and what is wanted of its sixteen sectors. -/
structure Torn (af t : Int) (k : Nat) (D : Dk) (W : List Int) : Prop where
  n : D.n = 16
  torn : D.torn = full t
  len : W.length = 16
  up : (k : Int) ≤ af → D.down = false ∧ D.set = true ∧ D.after = af - k ∧ D.written = k
  dn : af < (k : Int) → D.down = true ∧ D.written = af
  sec : ∀ j : Nat, j < 16 → D.sec (j : Int) = full (W.getD j 0)
theorem sec_lay (D : Dk) (k : Int) (l : List Int) (j : Int) : (D.lay k l).sec j = if j = k then l else D.sec j := by
  unfold Dk.sec Dk.lay
  by_cases h : j = k <;> simp [h]
theorem full64 (x : Int) : (full x).length = 64 := by simp [full]
theorem torn_start (af t : Int) (h : 0 ≤ af) : ((Dk.new 16).crash af (full t)).1 = 0 ∧ Torn af t 0 ((Dk.new 16).crash af (full t)).2 (List.replicate 16 0) := by
  have e : (Dk.new 16).crash af (full t) = (0, { (Dk.new 16) with set := true, after := af, torn := full t }) := by
    unfold Dk.crash
    have h1 : (Dk.new 16).asked 0 = 0 := by decide
    have h2 : ¬ (af < 0 ∨ (full t).length ≠ 64) := by rw [full64]; omega
    simp only [h1, ne_eq, not_true_eq_false, if_false, if_neg h2]
  rw [e]
  refine ⟨rfl, rfl, rfl, by simp, fun _ => ⟨rfl, rfl, by simp, rfl⟩, fun h1 => by omega, fun j hj => ?_⟩
  have : (List.replicate 16 (0 : Int)).getD j 0 = 0 := by rw [List.getD_eq_getElem?_getD, List.getElem?_replicate, if_pos hj]; rfl
  rw [this]
  rfl
theorem asked_up {D : Dk} {af t : Int} {k : Nat} {W : List Int} (T : Torn af t k D W) (h : (k : Int) ≤ af) {n : Nat} (hn : n < 16) : D.asked (n : Int) = 0 := by
  obtain ⟨h1, _⟩ := T.up h
  unfold Dk.asked
  rw [h1, T.n]
  have : ¬ ((n : Int) < 0 ∨ (16 : Int) ≤ n) := by omega
  simp [this]
theorem write_before {D : Dk} {af t : Int} {k : Nat} {W : List Int} (T : Torn af t k D W) (h : (k : Int) < af) {n : Nat} (hn : n < 16) (y : Int) :
    (D.write n (full y)).1 = 0 ∧ Torn af t (k + 1) (D.write n (full y)).2 (W.set n y) := by
  obtain ⟨h1, h2, h3, h4⟩ := T.up (by omega)
  have ha := asked_up T (by omega) hn
  have e : D.write n (full y) = (0, { D.lay n (full y) with after := D.after - 1, written := D.written + 1 }) := by
    unfold Dk.write
    have hc : ¬ (D.set = true ∧ D.after = 0) := fun hc => by have := hc.2; omega
    rw [if_neg (by simpa using ha), if_neg (by simp [full64]), if_neg hc, if_pos h2]
  rw [e]
  refine ⟨rfl, T.n, T.torn, by simp [T.len], fun hk => ⟨h1, h2, ?_, ?_⟩, fun hk => by omega, fun j hj => ?_⟩
  · show D.after - 1 = af - ((k + 1 : Nat) : Int); omega
  · show D.written + 1 = ((k + 1 : Nat) : Int); omega
  · show (D.lay n (full y)).sec j = _
    rw [sec_lay]
    by_cases hjn : j = n
    · subst hjn
      simp [T.len, hj]
    · have h6 : ¬ (j : Int) = n := by omega
      rw [if_neg h6, T.sec j hj]
      congr 1
      simp [List.getD, List.getElem?_set, Ne.symm hjn]
theorem write_at {D : Dk} {af t : Int} {k : Nat} {W : List Int} (T : Torn af t k D W) (h : (k : Int) = af) {n : Nat} (hn : n < 16) (y : Int) :
    (D.write n (full y)).1 = 16 ∧ Torn af t (k + 1) (D.write n (full y)).2 ((W.set n y).set n t) := by
  obtain ⟨h1, h2, h3, h4⟩ := T.up (by omega)
  have ha := asked_up T (by omega) hn
  have e : D.write n (full y) = (16, { D.lay n D.torn with down := true, set := false }) := by
    unfold Dk.write
    have hc : D.set = true ∧ D.after = 0 := ⟨h2, by omega⟩
    rw [if_neg (by simpa using ha), if_neg (by simp [full64]), if_pos hc]
  rw [e]
  refine ⟨rfl, T.n, T.torn, by simp [T.len], fun hk => by omega, fun hk => ⟨rfl, ?_⟩, fun j hj => ?_⟩
  · show D.written = af; omega
  · show (D.lay n D.torn).sec j = _
    rw [sec_lay, T.torn]
    by_cases hjn : j = n
    · subst hjn
      simp [T.len, hj]
    · have h6 : ¬ (j : Int) = n := by omega
      rw [if_neg h6, T.sec j hj]
      congr 1
      simp [List.getD, List.getElem?_set, Ne.symm hjn]
theorem write_behind {D : Dk} {af t : Int} {k : Nat} {W : List Int} (T : Torn af t k D W) (h : af < (k : Int)) (n : Int) (y : Int) :
    (D.write n (full y)).1 = 16 ∧ Torn af t (k + 1) (D.write n (full y)).2 W := by
  obtain ⟨h1, h2⟩ := T.dn h
  have e : D.write n (full y) = (16, D) := by
    unfold Dk.write
    have : D.asked n = 16 := by simp [Dk.asked, h1]
    simp [this]
  rw [e]
  exact ⟨rfl, T.n, T.torn, T.len, fun hk => by omega, fun hk => ⟨h1, h2⟩, T.sec⟩
theorem torn_written {D : Dk} {af t : Int} {k : Nat} {W : List Int} (T : Torn af t k D W) (h0 : 0 ≤ af) : D.written = min af k ∧ 0 ≤ D.written ∧ D.written ≤ k := by
  by_cases h : (k : Int) ≤ af
  · obtain ⟨_, _, _, h4⟩ := T.up h
    omega
  · obtain ⟨_, h4⟩ := T.dn (by omega)
    omega
end Go.Proofs.Ytnoookcfacmdkaa

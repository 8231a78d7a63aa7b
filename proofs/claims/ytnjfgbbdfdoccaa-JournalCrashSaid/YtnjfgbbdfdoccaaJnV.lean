/- The page's example: what it comes to. -/
import Derived.Test.YtnjfgbbdfdoccaaJnU
namespace Go.Proofs.Ytnjfgbbdfdoccaa
open Go.RowKit Go.ChangeMaps
set_option linter.unusedSimpArgs false
set_option linter.unusedVariables false
set_option maxRecDepth 20000

def kD0 : Dk := Dk.new 20
def kF : Int × Jk × Dk := fmtJ.writes kD0 fmtPlan
def kA : Int × Jk × Dk := kF.2.1.append kF.2.2 [1, 2, 3]
def kB : Int × Jk × Dk := kA.2.1.append kA.2.2 (List.replicate 100 0)
def kC : Int × Jk × Dk := kB.2.1.check kB.2.2
theorem kF_ok : kF.1 = 0 := by kernel_rfl
theorem kA_ok : kA.1 = 0 := by kernel_rfl
theorem kB_ok : kB.1 = 0 := by kernel_rfl
theorem kC_ok : kC.1 = 0 := by kernel_rfl
theorem kC_eps : epsP kC.2.2 = 2 := by kernel_rfl
theorem kC_open : (openJ kC.2.2).l = [[1, 2, 3], List.replicate 100 0] := by kernel_rfl
theorem kF_left : leftP kF.2.1 kF.2.2 = 9 := by kernel_rfl
theorem kA_left : leftP kA.2.1 kA.2.2 = 8 := by kernel_rfl
theorem kB_left : leftP kB.2.1 kB.2.2 = 6 := by kernel_rfl
theorem kC_left : leftP kC.2.1 kC.2.2 = 6 := by kernel_rfl
theorem kC_ep : kC.2.1.epoch = 2 := by kernel_rfl
theorem kC_oep : (openJ kC.2.2).epoch = 2 := by kernel_rfl
theorem kC_no : roomB kC.2.1 kC.2.2 400 = false := by kernel_rfl
theorem kC_yes : roomB kC.2.1 kC.2.2 300 = true := by kernel_rfl
theorem kF_room : roomB kF.2.1 kF.2.2 3 = true := by kernel_rfl
theorem kA_room : roomB kA.2.1 kA.2.2 100 = true := by kernel_rfl
/-- a journal on a disk that is new -/
theorem fmt_room {n : Int} (h0 : 8 ≤ n) (h1 : n ≤ 65536) : (fmtJ.writes (Dk.new n) fmtPlan).1 = 0 ∧ RoomInv 0 (fmtJ.writes (Dk.new n) fmtPlan).2.1 (fmtJ.writes (Dk.new n) fmtPlan).2.2 ∧ (fmtJ.writes (Dk.new n) fmtPlan).2.1 = fmtJ ∧ (fmtJ.writes (Dk.new n) fmtPlan).2.2.n = n := by
  have hz : zeros64.length = 64 := by unfold zeros64; simp
  have c : Calm fmtJ (Dk.new n) := ⟨rfl, rfl, rfl⟩
  obtain ⟨w0, w1, w2⟩ := writes_calm fmtPlan c (fun x hx => by
    have hn : (Dk.new n).n = n := rfl
    rw [hn]
    unfold fmtPlan at hx
    simp only [List.mem_cons, List.not_mem_nil, or_false] at hx
    rcases hx with rfl | rfl | rfl | rfl
    · exact ⟨by decide, by show (0 : Int) < n; omega, hz⟩
    · exact ⟨by decide, by show (1 : Int) < n; omega, hz⟩
    · exact ⟨by decide, by show (2 : Int) < n; omega, hz⟩
    · exact ⟨by decide, by show (1 : Int) < n; omega, superP_len 1⟩)
  obtain ⟨s1, s2, s3, _⟩ := Jk.writes_same fmtPlan fmtJ (Dk.new n)
  have hpl : fmtPlan.length = 4 := rfl
  have hn : (Dk.new n).n = n := rfl
  have hwn : (Dk.new n).written = 0 := rfl
  rw [hpl] at s3
  rw [hn] at s1
  rw [hwn] at s2 s3
  generalize fmtJ.writes (Dk.new n) fmtPlan = r at *
  obtain ⟨r0, r1, r2⟩ := r
  dsimp only at *
  subst w0 w1
  have hb := begin_half (D := r2) (by omega) (by omega) 1
  rw [s1] at hb
  refine ⟨rfl, ⟨⟨by omega, by omega, by decide, by decide, by decide, by decide, s2, by omega, by decide⟩, w2, by decide, by simp [fmtJ], by omega, ?_⟩, rfl, s1⟩
  show (2 : Int) ≤ beginP r2.n 1 + halfP r2.n
  rw [s1, beginP_one]; omega
theorem kF_inv : RoomInv 0 kF.2.1 kF.2.2 := (fmt_room (n := 20) (by decide) (by decide)).2.1
theorem isB_nums {l : List Int} (h : l.all (fun x => decide (0 ≤ x ∧ x < 256)) = true) : IsB l := fun x hx => of_decide_eq_true (List.all_eq_true.1 h x hx)
theorem kA_inv : RoomInv 1 kA.2.1 kA.2.2 := (append_room kF_inv (by decide) (b := [1, 2, 3]) ⟨by decide, isB_nums (by decide)⟩ kF_room).2.1
theorem kB_inv : RoomInv 2 kB.2.1 kB.2.2 := (append_room kA_inv (by decide) (b := List.replicate 100 0) ⟨by simp, isB_nums (by kernel_rfl)⟩ (by rw [List.length_replicate]; exact kA_room)).2.1
theorem kC_inv : RoomInv 3 kC.2.1 kC.2.2 := by
  rcases check_room kB_inv (by decide) with h | h
  · have h1 : kC.1 = 7 := h.1
    rw [kC_ok] at h1
    exact absurd h1 (by decide)
  · exact h.2.1
/-- all sectors hold bytes -/
def SecsB (D : Dk) : Prop := ∀ k l, D.by_ k = some l → IsB l
theorem SecsB.sec {D : Dk} (h : SecsB D) (k : Int) : IsB (D.sec k) := by
  unfold Dk.sec
  cases hk : D.by_ k with
  | none => exact isB_zeros 64
  | some l => exact h k l hk
theorem write_secs {J : Jk} {D : Dk} (c : Calm J D) (h : SecsB D) {k : Int} {l : List Int} (hl : IsB l) : SecsB (J.write D k l).2.2 := by
  have hd : SecsB (D.write k l).2 := by
    unfold Dk.write
    split
    · exact h
    · split
      · exact h
      · rw [if_neg (by rw [c.set]; simp)]
        intro k2 l2 h2
        have h2 : (if k2 = k then some l else D.by_ k2) = some l2 := h2
        split at h2
        · cases h2; exact hl
        · exact h k2 l2 h2
  unfold Jk.write
  split
  · exact h
  · exact hd
theorem writes_secs : ∀ (p : List (Int × List Int)) {J : Jk} {D : Dk} (_ : Calm J D) (_ : SecsB D) (_ : ∀ x ∈ p, 0 ≤ x.1 ∧ x.1 < D.n ∧ x.2.length = 64) (_ : ∀ x ∈ p, IsB x.2), SecsB (J.writes D p).2.2
  | [], J, D, c, hs, _, _ => hs
  | x :: p, J, D, c, hs, h, hb => by
    obtain ⟨a0, a1, a2⟩ := h x List.mem_cons_self
    obtain ⟨w0, w1, w2, w3⟩ := write_calm c a0 a1 a2
    have h1 := write_secs c hs (k := x.1) (hb x List.mem_cons_self)
    unfold Jk.writes
    rw [if_pos w0, w1]
    exact writes_secs p w2 h1 (fun y hy => by rw [w3]; exact h y (List.mem_cons_of_mem _ hy)) (fun y hy => hb y (List.mem_cons_of_mem _ hy))
theorem layPlan_isB {at_ : Int} {b : List Int} {M : Nat} (hb : IsB b) : ∀ x ∈ layPlan at_ b M, IsB x.2 := by
  intro x hx
  unfold layPlan at hx
  rcases List.mem_cons.1 hx with rfl | hx
  · exact isB_zeros 64
  · rcases List.mem_cons.1 hx with rfl | hx
    · exact isB_zeros 64
    · obtain ⟨i, hi, rfl⟩ := List.mem_map.1 hx
      exact (hb.drop _).take _
theorem append_secs {i : Nat} {J : Jk} {D : Dk} (h : RoomInv i J D) (hs : SecsB D) {b : List Int} (hb : IsB b) : SecsB (J.append D b).2.2 := by
  by_cases hr : roomB J D b.length = true
  · have hr2 : 1 ≤ (b.length : Int) ∧ (b.length : Int) ≤ 65536 ∧ ((b.length : Int) + 81) / 64 + 1 ≤ leftP J D := of_decide_eq_true hr
    obtain ⟨r1, r2, r3⟩ := hr2
    unfold leftP at r3
    obtain ⟨b0, b1, b2, b3⟩ := begin_half h.ok.n0 h.ok.n1 J.epoch
    have a0 := h.ok.a0
    have hM : ((manyP b.length : Nat) : Int) = ((b.length : Int) + 81) / 64 := by unfold manyP; omega
    have hM1 : 1 ≤ manyP b.length := by unfold manyP; omega
    have hin := layPlan_in (at_ := J.at_) (n := D.n) (b := frameP 0 J.epoch (J.l.length + 1) b) (M := manyP b.length) (by omega) (by omega) hM1 (frameP_len _ _ _ _)
    have h1 := writes_secs _ h.calm hs hin (layPlan_isB (frameP_isB (by decide) hb))
    have w0 := (writes_calm _ h.calm hin).1
    unfold Jk.append
    rw [if_neg (by rw [h.calm.dead]; simp), if_neg (by omega), if_neg (by rw [hr]; simp), if_pos w0]
    exact h1
  · have := (append_none h.calm (b := b) (by simpa using hr)).2
    rw [this]
    exact hs
theorem new_secs (n : Int) : SecsB (Dk.new n) := fun k l h => by cases h
theorem check_secs {i : Nat} {J : Jk} {D : Dk} (h : RoomInv i J D) (hi : i < 60) (hs : SecsB D) : SecsB (J.check D).2.2 := by
  unfold Jk.check
  rw [if_neg (by rw [h.calm.dead]; simp)]
  split
  · exact hs
  · rename_i hc
    obtain ⟨b0, b1, b2, b3⟩ := begin_half h.ok.n0 h.ok.n1 (J.epoch + 1)
    have n0 := h.ok.n0
    have hh3 : 3 ≤ halfP D.n := by unfold halfP; omega
    have hz : zeros64.length = 64 := by unfold zeros64; simp
    have hown := h.own (by omega)
    have hA : (J.checkA D).1 = 0 ∧ (J.checkA D).2.1 = J ∧ Calm J (J.checkA D).2.2 ∧ SecsB (J.checkA D).2.2 := by
      unfold Jk.checkA
      split
      · obtain ⟨x0, x1, x2, x3⟩ := write_calm h.calm (k := beginP D.n (J.epoch + 1)) (l := zeros64) (by omega) (by omega) hz
        exact ⟨x0, x1, x2, write_secs h.calm hs (isB_zeros 64)⟩
      · rename_i hl
        have hM1 : 1 ≤ manyP (ckOwn J.l).length := by unfold manyP; omega
        have hM3 : ((manyP (ckOwn J.l).length : Nat) : Int) + 1 ≤ halfP D.n := by omega
        have hin := layPlan_in (at_ := beginP D.n (J.epoch + 1)) (n := D.n) (b := frameP 1 (J.epoch + 1) J.l.length (ckOwn J.l)) (M := manyP (ckOwn J.l).length) (by omega) (by omega) hM1 (frameP_len _ _ _ _)
        obtain ⟨x0, x1, x2⟩ := writes_calm _ h.calm hin
        exact ⟨x0, x1, x2, writes_secs _ h.calm hs hin (layPlan_isB (frameP_isB (by decide) (ckOwn_isB (fun b hb => (h.each b hb).2))))⟩
    generalize J.checkA D = r at hA ⊢
    obtain ⟨r0, r1, D1⟩ := r
    obtain ⟨a0, a1, a2, a3⟩ := hA
    dsimp only at a0 a1 a2 a3
    subst a0 a1
    have hw := write_secs a2 a3 (k := (r1.epoch + 1) % 2) (superP_isB (r1.epoch + 1))
    unfold Jk.checkB
    rw [if_pos rfl]
    dsimp only
    split
    · exact hw
    · exact hw
theorem fmt_secs {n : Int} (h0 : 8 ≤ n) (h1 : n ≤ 65536) : SecsB (fmtJ.writes (Dk.new n) fmtPlan).2.2 := by
  have hz : zeros64.length = 64 := by unfold zeros64; simp
  have hn : (Dk.new n).n = n := rfl
  refine writes_secs fmtPlan ⟨rfl, rfl, rfl⟩ (new_secs n) (fun x hx => ?_) (fun x hx => ?_)
  · rw [hn]
    unfold fmtPlan at hx
    simp only [List.mem_cons, List.not_mem_nil, or_false] at hx
    rcases hx with rfl | rfl | rfl | rfl
    · exact ⟨by decide, by show (0 : Int) < n; omega, hz⟩
    · exact ⟨by decide, by show (1 : Int) < n; omega, hz⟩
    · exact ⟨by decide, by show (2 : Int) < n; omega, hz⟩
    · exact ⟨by decide, by show (1 : Int) < n; omega, superP_len 1⟩
  · unfold fmtPlan at hx
    simp only [List.mem_cons, List.not_mem_nil, or_false] at hx
    rcases hx with rfl | rfl | rfl | rfl
    · exact isB_zeros 64
    · exact isB_zeros 64
    · exact isB_zeros 64
    · exact superP_isB 1
theorem kC_secs : SecsB kC.2.2 :=
  check_secs kB_inv (by decide) (append_secs kA_inv (append_secs kF_inv (fmt_secs (n := 20) (by decide) (by decide)) (b := [1, 2, 3]) (isB_nums (by decide))) (b := List.replicate 100 0) (isB_zeros 100))
end Go.Proofs.Ytnjfgbbdfdoccaa

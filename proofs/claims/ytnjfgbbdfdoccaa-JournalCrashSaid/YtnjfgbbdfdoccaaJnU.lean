/- The journal on a disk that does not crash: what appends and checkpoints do. -/
import Derived.Test.YtnjfgbbdfdoccaaJnT
namespace Go.Proofs.Ytnjfgbbdfdoccaa
open Go.RowKit Go.ChangeMaps
set_option linter.unusedSimpArgs false
set_option linter.unusedVariables false
set_option maxRecDepth 20000

/-- neither dead nor down, and no crash is set -/
structure Calm (J : Jk) (D : Dk) : Prop where
  dead : J.dead = false
  down : D.down = false
  set : D.set = false
theorem write_calm {J : Jk} {D : Dk} (c : Calm J D) {k : Int} {l : List Int} (h0 : 0 ≤ k) (h1 : k < D.n) (hl : l.length = 64) :
    (J.write D k l).1 = 0 ∧ (J.write D k l).2.1 = J ∧ Calm J (J.write D k l).2.2 ∧ (J.write D k l).2.2.n = D.n := by
  obtain ⟨c1, c2, c3⟩ := c
  have ha : D.asked k = 0 := by
    unfold Dk.asked
    rw [c2, if_neg (by decide), if_neg (by omega)]
  have hw : D.write k l = (0, { D.lay k l with after := if D.set = true then D.after - 1 else D.after, written := D.written + 1 }) := by
    unfold Dk.write
    rw [if_neg (by rw [ha]; simp), if_neg (by omega), if_neg (by rw [c3]; simp)]
  have hj : J.write D k l = (0, J, { D.lay k l with after := if D.set = true then D.after - 1 else D.after, written := D.written + 1 }) := by
    unfold Jk.write
    rw [if_neg (by rw [c1]; simp), hw]
    have : ({ J with dead := !decide ((0 : Int) = 0) } : Jk) = J := by
      cases J; simp at c1; subst c1; rfl
    simpa using this
  rw [hj]
  exact ⟨rfl, rfl, ⟨c1, c2, c3⟩, rfl⟩
theorem writes_calm : ∀ (p : List (Int × List Int)) {J : Jk} {D : Dk} (_ : Calm J D) (_ : ∀ x ∈ p, 0 ≤ x.1 ∧ x.1 < D.n ∧ x.2.length = 64),
    (J.writes D p).1 = 0 ∧ (J.writes D p).2.1 = J ∧ Calm J (J.writes D p).2.2
  | [], J, D, c, _ => ⟨rfl, rfl, c⟩
  | x :: p, J, D, c, h => by
    obtain ⟨a0, a1, a2⟩ := h x List.mem_cons_self
    obtain ⟨w0, w1, w2, w3⟩ := write_calm c a0 a1 a2
    unfold Jk.writes
    rw [if_pos w0, w1]
    exact writes_calm p w2 (fun y hy => by rw [w3]; exact h y (List.mem_cons_of_mem _ hy))
theorem layPlan_in {at_ n : Int} {b : List Int} {M : Nat} (h0 : 0 ≤ at_) (h1 : at_ + M < n) (hM : 1 ≤ M) (hb : b.length = M * 64) : ∀ x ∈ layPlan at_ b M, 0 ≤ x.1 ∧ x.1 < n ∧ x.2.length = 64 := by
  intro x hx
  unfold layPlan at hx
  have hz : zeros64.length = 64 := by unfold zeros64; simp
  rcases List.mem_cons.1 hx with rfl | hx
  · exact ⟨h0, by show at_ < n; omega, hz⟩
  · rcases List.mem_cons.1 hx with rfl | hx
    · exact ⟨by show 0 ≤ at_ + M; omega, h1, hz⟩
    · obtain ⟨i, hi, rfl⟩ := List.mem_map.1 hx
      have hm : i % M < M := Nat.mod_lt _ (by omega)
      refine ⟨by show 0 ≤ at_ + ((i % M : Nat) : Int); omega, by show at_ + ((i % M : Nat) : Int) < n; omega, ?_⟩
      show ((b.drop (i % M * 64)).take 64).length = 64
      rw [List.length_take, List.length_drop, hb]
      have : i % M * 64 + 64 ≤ M * 64 := by omega
      omega
theorem ckOwn_bound : ∀ (l : List (List Int)) (k : Nat), (∀ b ∈ l, b.length ≤ k) → (ckOwn l).length ≤ l.length * (k + 4)
  | [], k, _ => by simp [ckOwn]
  | b :: l, k, h => by
    have h1 := ckOwn_bound l k (fun x hx => h x (List.mem_cons_of_mem _ hx))
    have h2 := h b List.mem_cons_self
    have h3 : (ckOwn (b :: l)).length = 4 + b.length + (ckOwn l).length := by simp [ckOwn, fourP_len]; omega
    rw [h3, List.length_cons, Nat.succ_mul]
    omega
/-- a journal behind so many calls -/
structure RoomInv (i : Nat) (J : Jk) (D : Dk) : Prop where
  ok : JOk J D
  calm : Calm J D
  len : J.l.length ≤ i
  each : ∀ b ∈ J.l, b.length ≤ 3000 ∧ IsB b
  wr : D.written ≤ 4 + (i : Int) * 1000000
  hi : J.at_ ≤ beginP D.n J.epoch + halfP D.n
theorem RoomInv.own {i : Nat} {J : Jk} {D : Dk} (h : RoomInv i J D) (hi : i ≤ 60) : (ckOwn J.l).length ≤ 180240 := by
  have h1 := ckOwn_bound J.l 3000 (fun b hb => (h.each b hb).1)
  have h2 := h.len
  omega
theorem RoomInv.more {i : Nat} {J : Jk} {D : Dk} (h : RoomInv i J D) : RoomInv (i + 1) J D :=
  { h with len := by have := h.len; omega, wr := by have := h.wr; omega }
/-- a record is taken, or it is not -/
theorem append_room {i : Nat} {J : Jk} {D : Dk} (h : RoomInv i J D) (hi : i < 60) {b : List Int} (hb : b.length ≤ 3000 ∧ IsB b) (hr : roomB J D b.length = true) :
    (J.append D b).1 = 0 ∧ RoomInv (i + 1) (J.append D b).2.1 (J.append D b).2.2 ∧ (J.append D b).2.1.l = J.l ++ [b] ∧ (J.append D b).2.2.n = D.n ∧ (J.append D b).2.1.epoch = J.epoch ∧ leftP (J.append D b).2.1 (J.append D b).2.2 = leftP J D - ((b.length : Int) + 81) / 64 := by
  obtain ⟨ok, calm, len, each, wr, hhi⟩ := h
  have hr' := hr
  unfold roomB at hr'
  have hr2 := of_decide_eq_true hr'
  obtain ⟨r1, r2, r3⟩ := hr2
  unfold leftP at r3
  obtain ⟨b0, b1, b2, b3⟩ := begin_half ok.n0 ok.n1 J.epoch
  have a0 := ok.a0
  have hM : ((manyP b.length : Nat) : Int) = ((b.length : Int) + 81) / 64 := by unfold manyP; omega
  have hM1 : 1 ≤ manyP b.length := by unfold manyP; omega
  have hM2 : manyP b.length ≤ 49 := by unfold manyP; omega
  obtain ⟨w0, w1, w2⟩ := writes_calm (layPlan J.at_ (frameP 0 J.epoch (J.l.length + 1) b) (manyP b.length)) calm (layPlan_in (by omega) (by omega) hM1 (frameP_len _ _ _ _))
  obtain ⟨s1, s2, s3, _⟩ := Jk.writes_same (layPlan J.at_ (frameP 0 J.epoch (J.l.length + 1) b) (manyP b.length)) J D
  rw [layPlan_len] at s3
  have e : J.append D b = (0, { J with l := J.l ++ [b], at_ := J.at_ + manyP b.length }, (J.writes D (layPlan J.at_ (frameP 0 J.epoch (J.l.length + 1) b) (manyP b.length))).2.2) := by
    unfold Jk.append
    rw [if_neg (by rw [calm.dead]; simp), if_neg (by omega), if_neg (by rw [hr]; simp), if_pos w0, w1]
  rw [e]
  generalize J.writes D (layPlan J.at_ (frameP 0 J.epoch (J.l.length + 1) b) (manyP b.length)) = r at *
  obtain ⟨x0, x1, D'⟩ := r
  dsimp only at *
  have hat : ({ J with l := J.l ++ [b], at_ := J.at_ + manyP b.length } : Jk).at_ = J.at_ + manyP b.length := rfl
  have n0 := ok.n0
  have n1 := ok.n1
  refine ⟨rfl, ⟨⟨by omega, by omega, ok.e0, ok.e1, ?_, ?_, by have := ok.w0; omega, ?_, ?_⟩, ⟨calm.dead, w2.down, w2.set⟩, ?_, ?_, ?_, ?_⟩, rfl, s1, rfl, ?_⟩
  · rw [hat]; omega
  · rw [hat]; omega
  · omega
  · rw [List.length_append, List.length_singleton]; omega
  · rw [List.length_append, List.length_singleton]; omega
  · intro x hx
    rcases List.mem_append.1 hx with hx | hx
    · exact each x hx
    · simp at hx; subst hx; exact hb
  · omega
  · show J.at_ + manyP b.length ≤ beginP D'.n J.epoch + halfP D'.n
    rw [s1]; omega
  · unfold leftP
    show beginP D'.n J.epoch + halfP D'.n - (J.at_ + manyP b.length) = _
    rw [s1]; omega
theorem append_none {J : Jk} {D : Dk} (h : Calm J D) {b : List Int} (hr : roomB J D b.length = false) : (J.append D b).1 ≠ 0 ∧ (J.append D b).2 = (J, D) := by
  unfold Jk.append
  rw [if_neg (by rw [h.dead]; simp)]
  split
  · exact ⟨by simp, rfl⟩
  · first
      | exact ⟨by simp, rfl⟩
      | (rw [if_pos hr]; exact ⟨by simp, rfl⟩)
/-- a checkpoint is done, or it is not -/
theorem check_room {i : Nat} {J : Jk} {D : Dk} (h : RoomInv i J D) (hi : i < 60) :
    ((J.check D).1 = 7 ∧ (J.check D).2 = (J, D)) ∨ ((J.check D).1 = 0 ∧ RoomInv (i + 1) (J.check D).2.1 (J.check D).2.2 ∧ (J.check D).2.1.l = J.l ∧ (J.check D).2.2.n = D.n ∧ (J.check D).2.1.epoch = J.epoch + 1) := by
  have hown := h.own (by omega)
  obtain ⟨ok, calm, len, each, wr, hhi⟩ := h
  unfold Jk.check
  rw [if_neg (by rw [calm.dead]; simp)]
  split
  · exact .inl ⟨rfl, rfl⟩
  · rename_i hc
    refine .inr ?_
    obtain ⟨b0, b1, b2, b3⟩ := begin_half ok.n0 ok.n1 (J.epoch + 1)
    have n0 := ok.n0
    have n1 := ok.n1
    have hz : zeros64.length = 64 := by unfold zeros64; simp
    have hh3 : 3 ≤ halfP D.n := by unfold halfP; omega
    have hA : (J.checkA D).1 = 0 ∧ (J.checkA D).2.1 = J ∧ Calm J (J.checkA D).2.2 ∧ (J.checkA D).2.2.n = D.n ∧ D.written ≤ (J.checkA D).2.2.written ∧ (J.checkA D).2.2.written ≤ D.written + 4000 ∧ 0 ≤ J.checkM ∧ J.checkM ≤ halfP D.n := by
      unfold Jk.checkA Jk.checkM
      split
      · obtain ⟨x0, x1, x2, x3⟩ := write_calm calm (k := beginP D.n (J.epoch + 1)) (l := zeros64) (by omega) (by omega) hz
        obtain ⟨y1, y2, y3, _⟩ := Jk.write_same J D (beginP D.n (J.epoch + 1)) zeros64
        exact ⟨x0, x1, x2, x3, y2, by omega, by omega, by omega⟩
      · rename_i hl
        have hM1 : 1 ≤ manyP (ckOwn J.l).length := by unfold manyP; omega
        have hM2 : manyP (ckOwn J.l).length ≤ 3000 := by unfold manyP; omega
        have hM3 : ((manyP (ckOwn J.l).length : Nat) : Int) + 1 ≤ halfP D.n := by omega
        obtain ⟨x0, x1, x2⟩ := writes_calm (layPlan (beginP D.n (J.epoch + 1)) (frameP 1 (J.epoch + 1) J.l.length (ckOwn J.l)) (manyP (ckOwn J.l).length)) calm (layPlan_in (by omega) (by omega) hM1 (frameP_len _ _ _ _))
        obtain ⟨y1, y2, y3, _⟩ := Jk.writes_same (layPlan (beginP D.n (J.epoch + 1)) (frameP 1 (J.epoch + 1) J.l.length (ckOwn J.l)) (manyP (ckOwn J.l).length)) J D
        rw [layPlan_len] at y3
        exact ⟨x0, x1, x2, y1, y2, by omega, by omega, by omega⟩
    generalize J.checkA D = r at hA ⊢
    obtain ⟨r0, r1, D1⟩ := r
    obtain ⟨a0, a1, a2, a3, a4, a5, a6, a7⟩ := hA
    dsimp only at a0 a1 a2 a3 a4 a5 a6 a7
    subst a0 a1
    unfold Jk.checkB
    rw [if_pos rfl]
    dsimp only
    have hm2 : 0 ≤ (r1.epoch + 1) % 2 ∧ (r1.epoch + 1) % 2 ≤ 1 := by omega
    obtain ⟨x0, x1, x2, x3⟩ := write_calm a2 (k := (r1.epoch + 1) % 2) (l := superP (r1.epoch + 1)) hm2.1 (by omega) (superP_len _)
    obtain ⟨y1, y2, y3, _⟩ := Jk.write_same r1 D1 ((r1.epoch + 1) % 2) (superP (r1.epoch + 1))
    rw [if_pos x0]
    dsimp only
    generalize r1.write D1 ((r1.epoch + 1) % 2) (superP (r1.epoch + 1)) = q at *
    obtain ⟨q0, q1, D2⟩ := q
    dsimp only at *
    subst x0 x1
    have hep : ¬ q1.epoch = 4294967295 := fun e => hc (.inl e)
    have hDn : D2.n = D.n := by omega
    have he0 := ok.e0
    have he1 := ok.e1
    have hw0 := ok.w0
    have hl0 := ok.l0
    refine ⟨rfl, ⟨⟨by omega, by omega, ?_, ?_, ?_, ?_, by omega, by omega, ?_⟩, ⟨calm.dead, x2.down, x2.set⟩, ?_, each, by omega, ?_⟩, rfl, hDn, rfl⟩
    · dsimp only; omega
    · dsimp only; omega
    · dsimp only; omega
    · dsimp only; omega
    · dsimp only; omega
    · dsimp only; omega
    · dsimp only; rw [hDn]; omega
end Go.Proofs.Ytnjfgbbdfdoccaa

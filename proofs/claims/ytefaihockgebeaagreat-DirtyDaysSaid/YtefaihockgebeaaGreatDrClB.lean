/- A day that is edited is touched; if a day of a field is touched, so is each day from it to Back days behind of what stands on it; what stands on nothing that is edited is not touched; more edits touch no less. No condition. -/
import Derived.Test.YtefaihockgebeaaGreatGrG
import Derived.Test.YtefaihockgebeaaGreatGrO
import Derived.Test.YtefaihockgebeaaGreatGrC
import Derived.Test.YtefaihockgebeaaGreatSpC
import Derived.OrdersIn
import Derived.RangeFuncCalls
import Derived.TacticsIn
import Derived.Test.YtefaihockgebeaaGreatRegF
import Derived.RangeFuncNested
import Derived.WalkKit
import Derived.LoopIn
import Derived.LoopNIn
import Derived.TacticsInMore
import Derived.OwnWalkIn
import Derived.RangeFuncLeaves
import Derived.RangeFuncBound
import Derived.Shelf.Abstract
import Derived.Shelf.RegionOpen
import Derived.Laws.EntriesVeiled
import Derived.Test.YtefaihockgebeaaGreatSpP
import Derived.Test.YtefaihockgebeaaGreatGrL
import Derived.Test.YtefaihockgebeaaGreatGrN
import Derived.Test.YtefaihockgebeaaGreatSpQ
import Derived.Test.YtefaihockgebeaaGreatArgSp
import Derived.Test.YtefaihockgebeaaGreatLift
namespace Go.Proofs.YtefaihockgebeaaGreat
set_option linter.unusedSimpArgs false
set_option linter.unusedVariables false

/-- those of the first n numbers for which something holds -/
def selU (p : Nat → Bool) : Nat → List Int
  | 0 => []
  | k + 1 => selU p k ++ (if p k then [(k : Int)] else [])
theorem selU_len (p : Nat → Bool) : ∀ n, (selU p n).length ≤ n
  | 0 => by simp [selU]
  | n + 1 => by
    have := selU_len p n
    unfold selU
    split <;> simp <;> omega
theorem selU_congr {p q : Nat → Bool} : ∀ n, (∀ k, k < n → p k = q k) → selU p n = selU q n
  | 0, _ => rfl
  | n + 1, h => by
    unfold selU
    rw [selU_congr n fun k hk => h k (by omega), h n (by omega)]
theorem selU_mem {p : Nat → Bool} : ∀ {n : Nat} {z : Int}, z ∈ selU p n ↔ ∃ k : Nat, z = k ∧ k < n ∧ p k = true
  | 0, z => by simp [selU]
  | n + 1, z => by
    unfold selU
    rw [List.mem_append, selU_mem]
    constructor
    · rintro (⟨k, e, h1, h2⟩ | h)
      · exact ⟨k, e, by omega, h2⟩
      · by_cases hp : p n = true
        · rw [if_pos hp] at h; exact ⟨n, List.mem_singleton.1 h, by omega, hp⟩
        · rw [if_neg hp] at h; cases h
    · rintro ⟨k, e, h1, h2⟩
      by_cases hk : k = n
      · subst hk; rw [if_pos h2]; exact .inr (List.mem_singleton.2 e)
      · exact .inl ⟨k, e, by omega, h2⟩
theorem stands_iff {L : Lks} {k i : Int} : Stands L k i ↔ k = i ∨ ∃ x ∈ linksOf L k.toNat, Stands L x.1 i := by
  constructor
  · intro h
    cases h with
    | self => exact .inl rfl
    | step hx e h => subst e; exact .inr ⟨_, hx, h⟩
  · rintro (rfl | ⟨x, hx, h⟩)
    · exact .self _
    · exact .step hx rfl h
/-- which fields stand on one, by what is known of some of them -/
def AboveB (L : Lks) (n : Nat) (i : Int) (done : List Int) (A : List Bool) : Prop := A.length = n ∧ ∀ k : Nat, k < n → (A.getD k false = true ↔ ((k : Int) = i ∨ ((k : Int) ∈ done ∧ Stands L k i)))
theorem AboveB.start (L : Lks) {n i : Nat} (hi : i < n) : AboveB L n i [] ((List.replicate n false).set i true) := by
  refine ⟨by simp, fun k hk => ?_⟩
  by_cases e : i = k
  · subst e; simp [hk]
  · simp [List.getElem?_set, e, hk, Ne.symm e]
    omega
theorem AboveB.step {L : Lks} {n : Nat} {i : Int} {out done rest : List Int} {k : Nat} {A : List Bool} (h : AboveB L n i done A) (ho : Ordered L n out) (e : out = done ++ (k : Int) :: rest) :
    AboveB L n i (done ++ [(k : Int)]) (A.set k (A.getD k false || (linksOf L k).any fun x => A.getD x.1.toNat false)) := by
  have hk : k < n := by have := ho.below k (by rw [e]; simp); omega
  have hlinks : ∀ x ∈ linksOf L k, x.1 ∈ done := by
    have := ho.links done k rest e
    simpa using this
  have hany : ((linksOf L k).any fun x => A.getD x.1.toNat false) = true ↔ ∃ x ∈ linksOf L k, Stands L x.1 i := by
    rw [List.any_eq_true]
    constructor
    · rintro ⟨x, hx, ha⟩
      have hb := ho.below x.1 (by rw [e]; exact List.mem_append.2 (.inl (hlinks x hx)))
      have := (h.2 x.1.toNat (by omega)).1 ha
      rw [Int.toNat_of_nonneg hb.1] at this
      rcases this with hh | hh
      · exact ⟨x, hx, hh ▸ .self _⟩
      · exact ⟨x, hx, hh.2⟩
    · rintro ⟨x, hx, hs⟩
      have hb := ho.below x.1 (by rw [e]; exact List.mem_append.2 (.inl (hlinks x hx)))
      refine ⟨x, hx, (h.2 x.1.toNat (by omega)).2 ?_⟩
      rw [Int.toNat_of_nonneg hb.1]
      exact .inr ⟨hlinks x hx, hs⟩
  refine ⟨by simpa using h.1, fun j hj => ?_⟩
  by_cases ej : k = j
  · subst ej
    have : (A.set k (A.getD k false || (linksOf L k).any fun x => A.getD x.1.toNat false)).getD k false = (A.getD k false || (linksOf L k).any fun x => A.getD x.1.toNat false) := by
      simp [h.1, hk]
    rw [this, Bool.or_eq_true, hany, h.2 k hk, stands_iff]
    simp only [Int.toNat_natCast, List.mem_append, List.mem_singleton, or_true, true_and]
    constructor
    · rintro ((a | ⟨a, b⟩) | a)
      · exact .inl a
      · exact .inr b
      · exact .inr (.inr a)
    · rintro (a | a | a)
      · exact .inl (.inl a)
      · exact .inl (.inl a)
      · exact .inr a
  · have e1 : (A.set k (A.getD k false || (linksOf L k).any fun x => A.getD x.1.toNat false)).getD j false = A.getD j false := by simp [List.getElem?_set, ej]
    rw [e1, h.2 j hj]
    simp only [List.mem_append, List.mem_singleton, show ¬ (j : Int) = k by omega, or_false]
theorem AboveB.stop {L : Lks} {n : Nat} {i : Int} {out : List Int} {A : List Bool} (h : AboveB L n i out A) (hf : ∀ z : Int, 0 ≤ z → z < n → z ∈ out) {k : Nat} (hk : k < n) : A.getD k false = true ↔ Stands L k i := by
  rw [h.2 k hk]
  constructor
  · rintro (e | ⟨_, b⟩)
    · exact e ▸ .self _
    · exact b
  · intro hs
    exact .inr ⟨hf k (by omega) (by omega), hs⟩
/-- what has been found to stand on a field -/
structure Found (L : Lks) (n : Nat) (i : Int) (f : List Int) : Prop where
  nodup : f.Nodup
  mem : i ∈ f
  stand : ∀ z ∈ f, (0 ≤ z ∧ z < n) ∧ Stands L z i
theorem Found.start (L : Lks) {n : Nat} {i : Int} (h0 : 0 ≤ i) (hi : i < n) : Found L n i [i] := ⟨by simp, by simp, fun z hz => by simp at hz; subst hz; exact ⟨⟨h0, hi⟩, .self _⟩⟩
theorem Found.add {L : Lks} {n : Nat} {i : Int} {f : List Int} (h : Found L n i f) {k : Nat} (hk : k < n) (hn : (k : Int) ∉ f) {x : Sp} (hx : x ∈ linksOf L k) (hf : x.1 ∈ f) : Found L n i (f ++ [(k : Int)]) := by
  refine ⟨?_, List.mem_append.2 (.inl h.mem), fun z hz => ?_⟩
  · rw [List.nodup_append]
    exact ⟨h.nodup, by simp, fun a ha b hb => by simp at hb; subst hb; exact fun e => hn (e ▸ ha)⟩
  · rcases List.mem_append.1 hz with hz | hz
    · exact h.stand z hz
    · simp at hz; subst hz
      exact ⟨by omega, .step (by simpa using hx) rfl (h.stand _ hf).2⟩
theorem Found.len {L : Lks} {n : Nat} {i : Int} {f : List Int} (h : Found L n i f) : f.length ≤ n := below_length h.nodup fun z hz => (h.stand z hz).1
theorem Found.done {L : Lks} {n : Nat} {i : Int} {f : List Int} (h : Found L n i f) (hL : LinksIn L n) (hc : ∀ k : Nat, k < n → ∀ x ∈ linksOf L k, x.1 ∈ f → (k : Int) ∈ f) {z : Int} (h0 : 0 ≤ z) (hz : z < n) : z ∈ f ↔ Stands L z i := by
  constructor
  · exact fun hm => (h.stand z hm).2
  · intro hs
    induction hs with
    | self => exact h.mem
    | @step k j i x hx e hs ih =>
      subst e
      have hb := hL k.toNat (by omega) x hx
      have := hc k.toNat (by omega) x hx (ih h hb.1 hb.2)
      rwa [Int.toNat_of_nonneg h0] at this
end Go.Proofs.YtefaihockgebeaaGreat
namespace Go.Proofs.YtefaihockgebeaaGreat
open Go.RowKit Go.ChangeMaps Go.Deep
set_option linter.unusedSimpArgs false
set_option linter.unusedVariables false
set_option maxRecDepth 20000

theorem run_makeBools (n : Nat) (hn : n ≤ 1000000) (w : World) : (Instr.makeSlice 83 (.int .i64 n) (.int .i64 n)).run Tryz.prog w = .ok (.slice (some ⟨w.heap.size, 0, none⟩) n n) (w.alloc (.cells (Array.replicate n (.bool false)) 4)) := by
  have h5 : (Tryz.prog.info? 4).map (fun i => (i.zero, i.size, i.bytes)) = some (some (.bool false), 1, 1) := by kernel_rfl
  obtain ⟨i0, hi, hz0, hz1, hz2⟩ := info_parts h5
  have h := run_make (P := Tryz.prog) (w := w) 83 4 i0 (.bool false) Tryz.underlying83 hi hz0 .i64 .i64 n n (by omega) (Int.le_refl _) (by rw [hz2]; omega) (by omega)
  rw [hz1, Nat.mul_one] at h
  have e : (Value.bool false).cells = #[.bool false] := rfl
  rw [e, made_one, Int.toNat_natCast] at h
  exact h
theorem BoolsAt.cell {w : World} {B g cap : Nat} {A : List Bool} (h : BoolsAt w B g A cap) {j : Nat} (hj : j < A.length) : w.cell? ⟨g, j, none⟩ = some (.bool (A.getD j false)) ∧ w.frozen? ⟨g, j, none⟩ = false := by
  obtain ⟨cs, hg, hc⟩ := h.2
  exact ⟨(cell_blk hg j).trans (hc j hj), frozen_blk hg j⟩
theorem BoolsAt.box {w : World} {B g cap : Nat} {A : List Bool} (h : BoolsAt w B g A cap) : w.cell? ⟨B, 0, none⟩ = some (.slice (some ⟨g, 0, none⟩) A.length cap) := by
  have := cell_blk h.1 0
  simpa using this
theorem BoolsAt.set {w : World} {B g cap : Nat} {A : List Bool} (h : BoolsAt w B g A cap) (hne : B ≠ g) {j : Nat} (hj : j < A.length) (b : Bool) : BoolsAt (w.setCell ⟨g, j, none⟩ (.bool b)) B g (A.set j b) cap := by
  obtain ⟨cs, hg, hc⟩ := h.2
  refine ⟨?_, _, heap_setCell_blk hg j (.bool b), fun k hk => ?_⟩
  · rw [heap_setCell_ne _ _ _ hne, List.length_set]
    exact h.1
  · rw [List.length_set] at hk
    have hjs : j < cs.size := by
      have := hc j hj
      exact (Array.getElem?_eq_some_iff.1 this).1
    rw [Array.getElem?_setIfInBounds]
    by_cases e : j = k
    · subst e; simp [hjs, hj]
    · rw [if_neg e, hc k hk]
      simp [List.getElem?_set, e]
end Go.Proofs.YtefaihockgebeaaGreat
namespace Go.Proofs.YtefaihockgebeaaGreat
open Go.RowKit Go.ChangeMaps Go.Deep
set_option linter.unusedSimpArgs false
set_option linter.unusedVariables false
set_option maxRecDepth 20000

theorem neq_link (x y : Sp) (w : World) : (binOp .neq 41 (.agg #[.int .i64 x.1, .int .i64 x.2]) (.agg #[.int .i64 y.1, .int .i64 y.2])).run Tryz.prog w = .ok (.bool (!decide (x = y))) w := by
  obtain ⟨a, b⟩ := x
  obtain ⟨c, d⟩ := y
  go_simp
  repeat' split
  all_goals simp [*]
theorem guard_link : Tryz.prog.eqGuardType Tryz.prog.depth 41 = false := by kernel_rfl
/-- is a number among some? -/
def amongB (l : List Int) (z : Int) : Bool := l.contains z
theorem amongB_iff {l : List Int} {z : Int} : amongB l z = true ↔ z ∈ l := by simp [amongB]
end Go.Proofs.YtefaihockgebeaaGreat
namespace Go.Proofs.YtefaihockgebeaaGreat
open Go.RowKit Go.ChangeMaps Go.Deep
set_option linter.unusedSimpArgs false
set_option linter.unusedVariables false
set_option maxRecDepth 20000

theorem rMay21_arg (n : Int) (v : Value) (us : List Value) (L : Lks) (w : World) (h : PartsAt w v us L) (hl : L.length ≤ 1000000) (hn : n < 0 ∨ 64 < n ∨ (L.length : Int) ≠ n) :
    Calls Tryz.prog 11 #[.int .i64 n, v] w fun e w' => e = .returned (.bool (mayL n L)) ∧ Mod [] w w' := by
  have HF := Lib.hid (show mayL n L = false by
    unfold mayL
    rcases hn with hn | hn | hn
    · rw [decide_eq_false (by omega : ¬ 0 ≤ n)]; rfl
    · rw [decide_eq_false (by omega : ¬ n ≤ 64)]; simp
    · rw [decide_eq_false hn]; simp)
  rw [HF.out]
  have HL := Lib.hid h.len
  have hul : us.length ≤ 1000000 := by rw [h.len]; exact hl
  obtain ⟨a, c, rfl⟩ := h.row.form
  clear h HF
  rw [← HL.out] at hn hl
  by_cases h0 : n < 0
  · go_enter Tryz.func11, Tryz.ntmps11
    go_wp2_with fail
    go_ret
    exact ⟨rfl, Mod.refl _ _⟩
  · by_cases h1 : 64 < n
    · go_enter Tryz.func11, Tryz.ntmps11
      go_wp2_with fail
      go_ret
      exact ⟨rfl, Mod.refl _ _⟩
    · have hne : ((us.length : Int) != n) = true := by
        rw [bne_iff_ne]
        rcases hn with h | h | h
        · exact (h0 h).elim
        · exact (h1 h).elim
        · exact h
      go_enter Tryz.func11, Tryz.ntmps11
      go_wp2_with fail
      go_ret
      exact ⟨rfl, Mod.refl _ _⟩
set_option maxHeartbeats 4000000 in
theorem rMay21_main (N : Nat) (v : Value) (us : List Value) (L : Lks) (w : World) (h : PartsAt w v us L) (hN : N ≤ 64) (hl : L.length = N) (hll : ∀ k, k < L.length → (linksOf L k).length ≤ 140737488355328) :
    Calls Tryz.prog 11 #[.int .i64 N, v] w fun e w' => e = .returned (.bool (mayL N L)) ∧ Mod [] w w' := by
  have hul : us.length = N := by rw [h.len]; exact hl
  have HP := Lib.hid h
  have HLL := Lib.hid hll
  have HL := Lib.hid hl
  have HUL := Lib.hid hul
  obtain ⟨a, c, rfl⟩ := h.row.form
  rw [hul] at HP ⊢
  have hne : ((N : Int) != N) = false := by simp
  clear h hll hl hul
  generalize HR : mayL N L = r
  have HMY := Lib.hid HR
  clear HR
  go_enter Tryz.func11, Tryz.ntmps11
  go_wp2_with fail
  go_loopw [5] (fun s5 wr => ∃ i : Nat, i ≤ N ∧ s5 = .int .i64 i ∧ Hid (∀ j, j < i → (linksOf L j).all (isLinkB N) = true) ∧ Hid (Mod [] w wr)) (fun s5 _ => N - (intOf s5).toNat)
  case atStart => exact ⟨0, by omega, rfl, Lib.hid (fun j hj => by omega), Lib.hid (Mod.refl _ _)⟩
  case round =>
    obtain ⟨i, hi, rfl, hA, hM⟩ := hrel
    rename World => wo
    by_cases hlt : i < N
    · have HGT := Lib.hid (fun W (k : Mod [] w W) => (show PartsAt W (.slice a N c) us L from ⟨HP.out.row.kept0 k, HP.out.len, fun j a b => (HP.out.part j a b).kept0 k⟩).get HUL.out hlt)
      have hlm := HLL.out i (by rw [HL.out]; exact hlt)
      have HNO := Lib.hid (fun h => not_all_links (f := isLinkB N) (L := L) (j := i) (by rw [HL.out]; exact hlt) h)
      obtain ⟨l, HLI⟩ : ∃ l, Hid (linksOf L i = l) := ⟨_, Lib.hid rfl⟩
      rw [HLI.out] at HGT hlm HNO
      go_wp2_with fail
      go_loopw [6] (fun s6 wr => ∃ k : Nat, k ≤ l.length ∧ s6 = .int .i64 k ∧ Hid ((l.drop k).all (isLinkB N) = l.all (isLinkB N)) ∧ Hid (Mod [] w wr)) (fun s6 _ => l.length - (intOf s6).toNat)
      case atStart => exact ⟨0, by omega, rfl, Lib.hid rfl, hM⟩
      case round =>
        obtain ⟨k, hk, rfl, hv, hM2⟩ := hrel
        obtain ⟨b, o, pa, pc, rfl, hc, q0, hs⟩ := HGT.out _ hM2.out
        by_cases hlt2 : k < l.length
        · obtain ⟨b2, o2, rfl, hc2, c0, c1⟩ := hs.get2 hlt2
          have hd := hv.out
          rw [← List.getElem_cons_drop hlt2, List.all_cons] at hd
          have HD := Lib.hid hd
          clear hd hs
          generalize l[k] = x at c0 c1 HD
          obtain ⟨x1, x2⟩ := x
          dsimp only at c0 c1 HD
          have HMZ := Lib.hid (hM2.out.alloc (.cells #[.int .i64 x1, .int .i64 x2] 41))
          by_cases hb : isLinkB N (x1, x2) = true
          · rw [hb, Bool.true_and] at HD
            simp [isLinkB] at hb
            obtain ⟨⟨⟨hb0, hb1⟩, hb2⟩, hb3⟩ := hb
            go_wp2_with fail
            go_roundw
            case rel => exact ⟨k + 1, by omega, by go_num, HD, HMZ⟩
            case measure => simp [intOf]; omega
          · have hbf : isLinkB N (x1, x2) = false := by simpa using hb
            rw [hbf, Bool.false_and] at HD
            have HF := Lib.hid (show mayL N L = false by
              unfold mayL
              rw [HNO.out HD.out.symm]
              simp)
            clear HNO hbf
            by_cases h0 : x1 < 0
            · go_wp2_with fail
              go_ret
              exact ⟨by rw [← HMY.out, HF.out]; rfl, HMZ.out⟩
            · skip
              by_cases h1 : (N : Int) ≤ x1
              · go_wp2_with fail
                go_ret
                exact ⟨by rw [← HMY.out, HF.out]; rfl, HMZ.out⟩
              · skip
                by_cases h2 : x2 < 0
                · go_wp2_with fail
                  go_ret
                  exact ⟨by rw [← HMY.out, HF.out]; rfl, HMZ.out⟩
                · skip
                  by_cases h3 : 3660 < x2
                  · go_wp2_with fail
                    go_ret
                    exact ⟨by rw [← HMY.out, HF.out]; rfl, HMZ.out⟩
                  · skip
                    exfalso
                    simp [isLinkB] at hb
                    omega
        · have HD := Lib.hid (show l.all (isLinkB N) = true by rw [← hv.out, List.drop_of_length_le (by omega)]; rfl)
          go_wp2_with fail
          go_roundw
          case rel => exact ⟨i + 1, by omega, by go_num, Lib.hid (fun j hj => by
            by_cases e : j = i
            · rw [e, HLI.out]; exact HD.out
            · exact hA.out j (by omega)), hM2⟩
          case measure => simp [intOf]; omega
    · have HT := Lib.hid (show mayL N L = true by
        unfold mayL
        rw [all_links (fun j hj => hA.out j (by rw [HL.out] at hj; omega)), HL.out]
        simp
        omega)
      go_wp2_with fail
      go_ret
      exact ⟨by rw [← HMY.out, HT.out]; rfl, hM.out⟩
theorem rMay21_any (n : Int) (v : Value) (us : List Value) (L : Lks) (w : World) (h : PartsAt w v us L) (hl : L.length ≤ 1000000) (hll : ∀ k, k < L.length → (linksOf L k).length ≤ 140737488355328) :
    Calls Tryz.prog 11 #[.int .i64 n, v] w fun e w' => e = .returned (.bool (mayL n L)) ∧ Mod [] w w' := by
  by_cases hn : n < 0 ∨ 64 < n ∨ (L.length : Int) ≠ n
  · exact rMay21_arg n v us L w h hl hn
  · obtain ⟨N, rfl⟩ : ∃ N : Nat, n = N := ⟨n.toNat, by omega⟩
    exact rMay21_main N v us L w h (by omega) (by omega) hll
end Go.Proofs.YtefaihockgebeaaGreat
namespace Go.Proofs.YtefaihockgebeaaGreat
set_option linter.unusedSimpArgs false
set_option linter.unusedVariables false

def ownOf (W : List (List Sp)) (f : Int) : List Sp := W.getD f.toNat []
/-- a day of a field is touched -/
inductive Tch (L : Lks) (W : List (List Sp)) : Int → Int → Prop
  | own {f d : Int} (h1 : 1 ≤ d) (h2 : d < 3652060) (h : In (ownOf W f) d) : Tch L W f d
  | link {f d e : Int} {x : Sp} (hx : x ∈ linksOf L f.toNat) (h : Tch L W x.1 e) (h1 : e ≤ d) (h2 : d ≤ e + x.2) (h3 : d < 3652060) : Tch L W f d
theorem Tch.day {L : Lks} {W : List (List Sp)} {f d : Int} (h : Tch L W f d) : 1 ≤ d ∧ d < 3652060 := by
  induction h with
  | own h1 h2 _ => exact ⟨h1, h2⟩
  | link hx h h1 h2 h3 ih => exact ⟨by omega, h3⟩
theorem tch_iff {L : Lks} {W : List (List Sp)} {f d : Int} : Tch L W f d ↔ (1 ≤ d ∧ d < 3652060 ∧ In (ownOf W f) d) ∨ ∃ x ∈ linksOf L f.toNat, ∃ e, Tch L W x.1 e ∧ e ≤ d ∧ d ≤ e + x.2 ∧ d < 3652060 := by
  constructor
  · intro h
    cases h with
    | own h1 h2 h => exact .inl ⟨h1, h2, h⟩
    | link hx h h1 h2 h3 => exact .inr ⟨_, hx, _, h, h1, h2, h3⟩
  · rintro (⟨h1, h2, h⟩ | ⟨x, hx, e, h, h1, h2, h3⟩)
    · exact .own h1 h2 h
    · exact .link hx h h1 h2 h3
/-- by some of a field's links -/
def Part (L : Lks) (W : List (List Sp)) (f : Int) (ls : List Sp) (d : Int) : Prop := (1 ≤ d ∧ d < 3652060 ∧ In (ownOf W f) d) ∨ ∃ x ∈ ls, ∃ e, Tch L W x.1 e ∧ e ≤ d ∧ d ≤ e + x.2 ∧ d < 3652060
theorem part_nil {L : Lks} {W : List (List Sp)} {f d : Int} : Part L W f [] d ↔ 1 ≤ d ∧ d < 3652060 ∧ In (ownOf W f) d := by simp [Part]
theorem part_all {L : Lks} {W : List (List Sp)} {f d : Int} : Part L W f (linksOf L f.toNat) d ↔ Tch L W f d := tch_iff.symm
theorem part_snoc {L : Lks} {W : List (List Sp)} {f d : Int} {ls : List Sp} {x : Sp} : Part L W f (ls ++ [x]) d ↔ Part L W f ls d ∨ ∃ e, Tch L W x.1 e ∧ e ≤ d ∧ d ≤ e + x.2 ∧ d < 3652060 := by
  unfold Part
  constructor
  · rintro (h | ⟨y, hy, h⟩)
    · exact .inl (.inl h)
    · rcases List.mem_append.1 hy with hy | hy
      · exact .inl (.inr ⟨y, hy, h⟩)
      · rw [List.mem_singleton.1 hy] at h; exact .inr h
  · rintro ((h | ⟨y, hy, h⟩) | h)
    · exact .inl h
    · exact .inr ⟨y, List.mem_append.2 (.inl hy), h⟩
    · exact .inr ⟨x, List.mem_append.2 (.inr (.head _)), h⟩
/-- right spans of a set of days -/
def IsSet (P : Int → Prop) (row : List Sp) : Prop := Right 0 row ∧ ∀ d, In row d ↔ P d
theorem IsSet.one {P Q : Int → Prop} {a b : List Sp} (h : IsSet P a) (k : IsSet Q b) (e : ∀ d, P d ↔ Q d) : a = b := right_one h.1 k.1 fun d => by rw [h.2, k.2, e]
theorem IsSet.congr {P Q : Int → Prop} {a : List Sp} (h : IsSet P a) (e : ∀ d, P d ↔ Q d) : IsSet Q a := ⟨h.1, fun d => by rw [h.2, e]⟩
/-- days at which edits begin -/
def begins (W : List (List Sp)) : List Int := W.flatMap fun l => l.map fun x => max x.1 1
theorem begins_own {W : List (List Sp)} {f d : Int} (h1 : 1 ≤ d) (h : In (ownOf W f) d) (h0 : ¬ (1 ≤ d - 1 ∧ In (ownOf W f) (d - 1))) : d ∈ begins W := by
  obtain ⟨x, hx, h2, h3⟩ := h
  have hd : d = max x.1 1 := by
    refine Classical.byContradiction fun hne => h0 ⟨by omega, x, hx, by omega, by omega⟩
  have hf : f.toNat < W.length := by
    refine Classical.byContradiction fun hn => ?_
    unfold ownOf at hx
    rw [List.getD_eq_getElem?_getD, List.getElem?_eq_none (by omega)] at hx
    cases hx
  unfold ownOf at hx
  rw [List.getD_eq_getElem?_getD, List.getElem?_eq_getElem hf] at hx
  exact List.mem_flatMap.2 ⟨_, List.getElem_mem hf, List.mem_map.2 ⟨x, hx, hd.symm⟩⟩
theorem begins_tch {L : Lks} {W : List (List Sp)} {f d : Int} (hb : ∀ k x, x ∈ linksOf L k → 0 ≤ x.2) (h : Tch L W f d) : ¬ Tch L W f (d - 1) → d ∈ begins W := by
  induction h with
  | @own f d h1 h2 h => exact fun hn => begins_own h1 h fun ⟨a, b⟩ => hn (.own a (by omega) b)
  | @link f d e x hx h h1 h2 h3 ih =>
    intro hn
    have hx0 := hb _ _ hx
    by_cases hd : e = d
    · subst hd
      exact ih fun hc => hn (.link hx hc (Int.le_refl _) (by omega) (by omega))
    · exact (hn (.link hx h (by omega) (by omega) (by omega))).elim
theorem begins_part {L : Lks} {W : List (List Sp)} {f d : Int} {ls : List Sp} (hb : ∀ k x, x ∈ linksOf L k → 0 ≤ x.2) (hl : ∀ x ∈ ls, 0 ≤ x.2) (h : Part L W f ls d) (hn : ¬ Part L W f ls (d - 1)) : d ∈ begins W := by
  rcases h with ⟨h1, h2, h⟩ | ⟨x, hx, e, h, h1, h2, h3⟩
  · exact begins_own h1 h fun ⟨a, b⟩ => hn (.inl ⟨a, by omega, b⟩)
  · have hx0 := hl _ hx
    by_cases hd : e = d
    · subst hd
      exact begins_tch hb h fun hc => hn (.inr ⟨x, hx, e - 1, hc, Int.le_refl _, by omega, by omega⟩)
    · exact (hn (.inr ⟨x, hx, e, h, by omega, by omega, by omega⟩)).elim
theorem right_begins : ∀ {l : List Sp} {a : Int}, Right a l → (l.map (·.1)).Nodup ∧ (∀ z ∈ l.map (·.1), a < z) ∧ ∀ z ∈ l.map (·.1), In l z ∧ ¬ In l (z - 1)
  | [], a, _ => by simp
  | x :: l, a, h => by
    obtain ⟨h1, h2, h3, h4⟩ := h
    obtain ⟨i1, i2, i3⟩ := right_begins h4
    refine ⟨?_, ?_, ?_⟩
    · rw [List.map_cons, List.nodup_cons]
      exact ⟨fun hm => by have := i2 _ hm; omega, i1⟩
    · intro z hz
      rcases List.mem_cons.1 hz with rfl | hz
      · exact h1
      · have := i2 z hz; omega
    · intro z hz
      rcases List.mem_cons.1 hz with e | hz
      · have e : z = x.1 := e
        subst e
        refine ⟨(in_cons _ _ _).2 (.inl ⟨Int.le_refl _, h2⟩), fun hc => ?_⟩
        rcases (in_cons _ _ _).1 hc with hc | hc
        · omega
        · have := Right.ahead h4 hc; omega
      · obtain ⟨j1, j2⟩ := i3 z hz
        have := i2 z hz
        refine ⟨(in_cons _ _ _).2 (.inr j1), fun hc => ?_⟩
        rcases (in_cons _ _ _).1 hc with hc | hc
        · omega
        · exact j2 hc
/-- a row of days that begin at some days alone has no more spans than these -/
theorem IsSet.len {P : Int → Prop} {row : List Sp} (h : IsSet P row) {S : List Int} (hS : ∀ d, P d → ¬ P (d - 1) → d ∈ S) : row.length ≤ S.length := by
  obtain ⟨h1, _, h3⟩ := right_begins h.1
  have := nodup_length h1 fun z hz => by
    obtain ⟨a, b⟩ := h3 z hz
    rw [h.2] at a b
    exact hS z a b
  simpa using this
theorem begins_len {W : List (List Sp)} {m : Nat} (h : ∀ l ∈ W, l.length ≤ m) : (begins W).length ≤ W.length * m := by
  unfold begins
  induction W with
  | nil => simp
  | cons l W ih =>
    have h1 := ih fun l hl => h l (.tail _ hl)
    have h2 := h l (.head _)
    rw [List.flatMap_cons, List.length_append, List.length_map, List.length_cons, Nat.add_mul]
    omega
/-- days touched by way of the links that go farthest back are all that are touched -/
theorem tch_lift {L M : Lks} {W : List (List Sp)} (h : ∀ k x, x ∈ linksOf L k → ∃ y ∈ linksOf M k, y.1 = x.1 ∧ x.2 ≤ y.2) {f d : Int} (ht : Tch L W f d) : Tch M W f d := by
  induction ht with
  | own h1 h2 h => exact .own h1 h2 h
  | link hx h' h1 h2 h3 ih =>
    obtain ⟨y, hy, e, hb⟩ := h _ _ hx
    exact .link hy (e ▸ ih) h1 (by omega) h3
theorem far_link {l R : List Sp} (h : IsOnce l R) {x : Sp} (hx : x ∈ l) : ∃ y ∈ R, y.1 = x.1 ∧ x.2 ≤ y.2 := by
  obtain ⟨y, hy, e, hm⟩ := far_one ⟨x, hx, rfl⟩
  exact ⟨y, (h.mem y).2 ⟨hy, fun z hz e2 => hm z hz (e2.trans e)⟩, e, hm x hx rfl⟩
/-! ### steps -/
theorem set_own {L : Lks} {W : List (List Sp)} {f : Int} {out : List Sp} (h : IsOf (ownOf W f) out) : IsSet (Part L W f []) out := ⟨h.1, fun d => by rw [h.2, part_nil]⟩
theorem set_link {L : Lks} {W : List (List Sp)} {f k : Int} {ls a t m o out : List Sp} {x : Sp} (ha : IsSet (Part L W f ls) a) (ht : IsSet (Tch L W x.1) t) (h1 : IsOf t m) (h2 : IsOf (wideL m k) o) (hk : k = min (max x.2 0) 3652060) (h0 : 0 ≤ x.2) (hb : IsBoth (· || ·) a o out) : IsSet (Part L W f (ls ++ [x])) out := by
  refine ⟨hb.1, fun d => ?_⟩
  rw [hb.2, part_snoc, Bool.or_eq_true, inB_iff, inB_iff, ha.2, wide_in h1 h2 hk h0]
  constructor
  · rintro ⟨d1, d2, h | ⟨_, _, e, e1, e2, e3, e4⟩⟩
    · exact .inl h
    · exact .inr ⟨e, (ht.2 e).1 e4, e2, e3, d2⟩
  · rintro (h | ⟨e, e1, e2, e3, e4⟩)
    · have hd : 1 ≤ d ∧ d < 3652060 := by
        rcases h with ⟨h1, h2, _⟩ | ⟨y, _, e, he, h1, _, h3⟩
        · exact ⟨h1, h2⟩
        · have := he.day; omega
      exact ⟨hd.1, hd.2, .inl h⟩
    · have := e1.day
      exact ⟨by omega, e4, .inr ⟨by omega, e4, e, by omega, e2, e3, (ht.2 e).2 e1⟩⟩
end Go.Proofs.YtefaihockgebeaaGreat
namespace Go.Proofs.YtefaihockgebeaaGreat
set_option linter.unusedSimpArgs false
set_option linter.unusedVariables false

def noDefer (l : List Oper) : Bool := l.all fun o => match o.op with | .defer _ => false | _ => true
theorem rowsIn_wide {n : Nat} {P : Program} {row : String} {args : Array Value} {w : World} {R : Value → World → Prop} (h : Rows P row args w R) : RowsIn Fence.wide n P row args w R :=
  fun c cs _ => let ⟨v, w', r, s⟩ := h c cs; ⟨v, w', r, stepsIn_wide.2 s⟩
section
variable {P : Program} {l : List Oper}
theorem wpOpIn_round (r n : Nat) {Q : Exit → Act → World → Prop} {ops : Array Oper} (hnd : noDefer ops.toList = true) (hQ : ¬ LetsOut Q) {i : Nat} {K K' : Act → World → Prop} {a : Act} {w : World} (hK : ∀ a w, K a w → K' a w) (h : wpOp P ops Q i K a w) :
    wpOpIn (Fence.wide.inRound r) n P ops Q i K' a w := by
  unfold wpOp at h
  unfold wpOpIn
  cases ho : ops[i]? with
  | none => rw [ho] at h; exact hK _ _ h
  | some o =>
    rw [ho] at h
    dsimp only at h ⊢
    have hd : ∀ c, o.op ≠ .defer c := fun c e => by
      have hm : o ∈ ops.toList := by
        obtain ⟨hlt, e2⟩ := Array.getElem?_eq_some_iff.1 ho
        rw [← e2]
        exact Array.getElem_mem_toList hlt
      have := List.all_eq_true.1 hnd o hm
      rw [e] at this
      cases this
    split
    · rename_i hw
      rw [if_pos hw] at h
      rcases h with h | h
      · refine ⟨fun f _ => trivial, ?_⟩
        have h' := Oper.wp_mono hK h
        unfold Oper.wp at h'
        rw [show (Fence.wide.inRound r).round = some r from rfl, Oper.semAt_some r a.eval o hd]
        revert h'
        generalize (execOp a.eval o).run P w = res
        intro h'
        rcases res with ⟨x, w'⟩ | ⟨x, w'⟩
        · cases x with
          | enter f args => exact ⟨fun hn => (by cases hn), CallsIn.inRound r (callsIn_wide.2 h')⟩
          | row row args => exact ⟨fun hn => (by cases hn), rowsIn_wide h'⟩
          | round _ _ _ _ _ => exact h'.elim
          | value v => exact h'
          | skip => exact h'
          | defer d => exact h'
          | _ => exact h'.elim
        · cases x <;> first | exact h' | exact h'.elim
      · exact absurd h.2 hQ
    · rename_i hw
      rw [if_neg hw] at h
      exact ⟨fun f _ => trivial, hK _ _ h⟩
theorem wpAnyIn_round (r n : Nat) {Q : Exit → Act → World → Prop} {ops : Array Oper} (hnd : noDefer ops.toList = true) (hQ : ¬ LetsOut Q) {md : Region.Mode} : ∀ (fuel : Nat) (listed : Array Bool) (a : Act) (w : World), wpAny P md ops Q fuel listed a w → wpAnyIn (Fence.wide.inRound r) n P md ops Q fuel listed a w
  | 0, _, _, _, h => h
  | fuel + 1, _, _, _, h => ⟨h.1, fun i hi => wpOpIn_round r n hnd hQ (wpAnyIn_round r n hnd hQ fuel _) (h.2 i hi)⟩
/-- the rule, within a round -/
theorem wp_planR {r n id : Nat} {Q : Exit → Act → World → Prop} {a : Act} {w : World} (segs : List (List Nat × Nat × List Nat)) (last : List Nat) (hm : P.follows .mixedOrders = true) (hok : planOk P l segs last = true) (hnd : noDefer l = true) (hQ : ¬ LetsOut Q)
    (h : wpSegs P l (fun a w => Q .normal a w) last segs a w.drew) : (Code.region id l.toArray true).wpIn (Fence.wide.inRound r) n P Q a w := by
  have F := facts_of hok
  refine wpIn_region_any hm (wpAnyIn_round r n (by simpa using hnd) hQ _ _ _ _ ?_)
  show wpAny P .any l.toArray Q l.toArray.size (Array.replicate l.toArray.size false) a w.drew
  obtain ⟨b, pre, todo, hord, hall, hsb, hst, hpx⟩ := advance F segs [] a w.drew rfl (fun s hs => hs) h
  have hf : ∀ i, (Array.replicate l.toArray.size false).getD i false = false := fun i => by
    rw [Array.getD_eq_getD_getElem?, Array.getElem?_replicate]; split <;> rfl
  refine wpAny_of_inv F _ _ _ _ pre todo b (by rw [cnt_new _ _ (by simp)]; simp) ⟨by simp, ?_, hord.symm, fun i _ => hf i, fun i hi _ => hall i hi, hsb.defers.symm, hsb.size.symm, ?_, hst, fun k hk hkx => absurd hkx (hpx k hk)⟩
  · intro j o _ hj
    rw [hf j] at hj
    cases hj
  · intro s hs
    refine (hsb.slot s fun hmem => ?_).symm
    obtain ⟨k, hk, e⟩ := List.mem_map.1 hmem
    exact hs k hk (hf k) e
end
end Go.Proofs.YtefaihockgebeaaGreat
namespace Go.Proofs.YtefaihockgebeaaGreat
open Go.RowKit Go.ChangeMaps Go.Deep
set_option linter.unusedSimpArgs false
set_option linter.unusedVariables false

theorem Mod.putBack {ks : List Nat} {W A B : World} {l : Nat} {o o1 : Obj} (ho : W.heap[l]? = some o) (hA : A = W.putObj l o1) (hAB : Mod ks A B) (hl : l ∉ ks) :
    B.heap[l]? = some o1 ∧ Mod ks W (B.putObj l o) ∧ (B.putObj l o).heap[l]? = some o := by
  subst hA
  have hlt : l < W.heap.size := lt_of_heap ho
  have h1 : (W.putObj l o1).heap[l]? = some o1 := World.putObj_heap_same hlt
  have h2 : B.heap[l]? = some o1 := hAB.heap h1 hl
  have h3 : (B.putObj l o).heap[l]? = some o := World.putObj_heap_same (lt_of_heap h2)
  have hs : (W.putObj l o1).heap.size = W.heap.size := by simp
  refine ⟨h2, ⟨hAB.os, hAB.tape, hAB.output, ?_, ?_⟩, h3⟩
  · have := hAB.size
    rw [hs] at this
    simpa using this
  · intro k hk hn
    by_cases e : k = l
    · subst e
      rw [h3, ho]
    · rw [World.putObj_heap_other e, hAB.block k (by rw [hs]; exact hk) hn]
      exact World.putObj_heap_other e
/-- what is kept by new blocks, and by a turn of a block beyond base that holds no cells -/
structure Firm (base : Nat) (p : World → Prop) : Prop where
  mod : ∀ W W', p W → Mod [] W W' → p W'
  put : ∀ (W : World) (l : Nat) (o o' : Obj), base ≤ l → W.heap[l]? = some o → o.isCells = false → p W → p (W.putObj l o')
/-- the contract of an iterator that may tell of what it yields -/
def Tells {α : Type} (P : Program) (n : Nat) (gf : Nat) (lb : Array Value) (encs : α → Array Value) (Px : List α → α → World → Prop) (ks : List Nat) (S : List α → Prop) (w : World) : Prop :=
  ∀ (l : Nat) (J : List α → World → Prop) (W : World), Mod [] w W → (∀ pre A B, J pre A → Mod [] A B → J pre B) →
    (∀ pre x A, J pre A → Px pre x A → YieldAt Fence.wide (n - 1) P l (encs x) A fun e B => e = .returned (.bool true) ∧ J (pre ++ [x]) B ∧ Mod ks A B) →
    J [] W → CallsIn Fence.wide n P gf (#[.func (.yield l) #[] #[]] ++ lb) W fun e B => (∃ v, e = .returned v) ∧ ∃ xs, S xs ∧ J xs B
theorem range_tells {α : Type} {P : Program} {n : Nat} {g : Operand} {ps : Array Tmp} {assign body : Code} {Q : Exit → Act → World → Prop} {a : Act} {w : World} (h1 : 1 ≤ n)
    {gf : Nat} {lb : Array Value} (hg : a.eval g = .func (.func gf) #[] lb) (eg : ∀ args w, (callFunc gf args).run P w = .ok (.enter gf args) w)
    {encs : α → Array Value} (hps : ∀ x, (encs x).size = ps.size) {Px : List α → α → World → Prop} {ks : List Nat} (hks : ∀ k ∈ ks, k < w.heap.size) {S : List α → Prop} (hit : Tells P (n - 1) gf lb encs Px ks S w)
    (I : List α → World → Prop) (hI : ∀ pre, Firm w.heap.size (I pre)) (hP : ∀ pre x, Firm w.heap.size (Px pre x)) (h0 : I [] w) (a₁ : α → Act)
    (hassign : ∀ (l : Nat) (x : α) (W : World) (K : Act → World → Prop), K (a₁ x) W →
      assign.wpIn (Fence.wide.inRound l) (n - 1 - 1) P (Exit.then K (fun _ _ _ => False)) { tmps := (ps.zip (encs x)).foldl (fun t (p, v) => t.setIfInBounds p v) a.tmps, defers := [] } W)
    (hbody : ∀ (l : Nat) (pre : List α) (x : α) (W : World), w.heap.size ≤ l → I pre W → Px pre x W → body.wpIn (Fence.wide.inRound l) (n - 1 - 1) P (fun e _ W' => e = .normal ∧ I (pre ++ [x]) W' ∧ Mod ks W W') (a₁ x) W)
    (hdone : ∀ (D : Nat) (xs : List α) (W : World), w.heap.size ≤ D → S xs → I xs W → W.heap[D]? = some (.deferred (some [])) → Q .normal { a with defers := { target := .collected D, args := #[] } :: a.defers } W) :
    (Code.rangeFunc g ps assign body).wpIn Fence.wide n P Q a w := by
  refine wpIn_rangeFunc fun fn hfn => ?_
  have hD : ∀ (r : Loop), ((w.alloc (.deferred (some []))).alloc (.loop r)).heap[w.heap.size]? = some (.deferred (some [])) := fun r => by
    rw [heap_alloc_ne _ _ (by simp), heap_alloc_new w _]
  have hL : ∀ (r : Loop), ((w.alloc (.deferred (some []))).alloc (.loop r)).heap[w.heap.size + 1]? = some (.loop r) := fun r => by
    have := heap_alloc_new (w.alloc (.deferred (some []))) (.loop r)
    rwa [World.size_alloc] at this
  have hM : ∀ (r : Loop), Mod [] w ((w.alloc (.deferred (some []))).alloc (.loop r)) := fun r => ((Mod.refl [] w).alloc _).alloc _
  have hnk : w.heap.size ∉ ks ∧ w.heap.size + 1 ∉ ks := ⟨fun h => absurd (hks _ h) (by omega), fun h => absurd (hks _ h) (by omega)⟩
  obtain ⟨rec, hrec⟩ : ∃ rec, Loop.mk LoopState.ready none fn a.tmps ps assign body w.heap.size = rec := ⟨_, rfl⟩
  obtain ⟨W1, hW1⟩ : ∃ W1, (w.alloc (.deferred (some []))).alloc (.loop rec) = W1 := ⟨_, rfl⟩
  refine ⟨w.heap.size + 1, [{ target := .collected w.heap.size, args := #[] }], W1, { target := .fn (.func gf) lb, args := #[.func (.yield (w.heap.size + 1)) #[] #[]] }, W1, gf, #[.func (.yield (w.heap.size + 1)) #[] #[]] ++ lb, W1,
    by rw [← hW1, ← hrec]; exact run_enterLoop_outer _ _ _ _ _, by simp only [resolve, hg]; simp [go_sem], fun f' hf' => by first | trivial | (simp [Target.leads] at hf'; subst hf'; trivial), by simp [invoke, go_sem, eg], fun _ => h1, ?_⟩
  have hL := hL rec
  have hD := hD rec
  have hM := hM rec
  rw [hW1] at hL hD hM
  refine (hit (w.heap.size + 1) (fun pre W => I pre W ∧ W.heap[w.heap.size + 1]? = some (.loop rec) ∧ W.heap[w.heap.size]? = some (.deferred (some []))) W1 hM
    (fun pre A B h m => ⟨(hI pre).mod A B h.1 m, m.heap h.2.1 (by simp), m.heap h.2.2 (by simp)⟩) ?_ ⟨(hI []).mod _ _ h0 hM, hL, hD⟩).mono ?_
  · rintro pre x W ⟨hi, hl, hd⟩ hx
    have hy := run_yield (P := P) (args := encs x) hl (by rw [← hrec]; exact hps x)
    rw [← hrec] at hy
    refine ⟨fn, _, assign, body, hy, roundIn_of_wpIn hfn (hassign _ x W _ ?_)⟩
    refine ⟨_, run_beginRound hl (by rw [← hrec]), ?_⟩
    refine wpIn_mono (hbody _ pre x _ (by omega) ((hI pre).put W _ _ _ (by omega) hl rfl hi) ((hP pre x).put W _ _ _ (by omega) hl rfl hx)) ?_
    rintro e a3 W3 ⟨rfl, hi3, hm3⟩
    obtain ⟨q1, q2, q3⟩ := Mod.putBack hl rfl hm3 hnk.2
    have he := run_endRound (P := P) none q1
    have hr : Loop.mk LoopState.ready none rec.fn rec.tmps rec.params rec.assign rec.body rec.defers = rec := by rw [← hrec]
    simp only [Option.isNone_none, if_true] at he
    rw [hr] at he
    exact ⟨_, _, he, rfl, ⟨(hI _).put W3 _ _ _ (by omega) q1 rfl hi3, q3, q2.heap hd hnk.1⟩, q2⟩
  · rintro e W2 ⟨⟨v, rfl⟩, xs, hS, hi, hl, hd⟩
    have he := run_endLoop (P := P) hl (by rw [← hrec]; simp)
    have hp : rec.pending = none := by rw [← hrec]
    rw [hp] at he
    exact ⟨none, _, he, hdone _ xs _ (Nat.le_refl _) hS ((hI xs).put W2 _ _ _ (by omega) hl rfl hi) ((World.putObj_heap_other (by omega)).trans hd)⟩
end Go.Proofs.YtefaihockgebeaaGreat
namespace Go.Proofs.YtefaihockgebeaaGreat
open Go.RowKit Go.ChangeMaps Go.Deep
set_option linter.unusedSimpArgs false
set_option linter.unusedVariables false
set_option maxRecDepth 20000
attribute [local go_sem] Oper.semAt_some

def encIL (x : Int × Value) : Array Value := #[.int .i64 x.1, x.2]
/-- what the iterator tells of a field and its links -/
def TellF (R : Lks) (out : List Int) (ks : List Nat) (pre : List (Int × Value)) (x : Int × Value) (W : World) : Prop := pre.map (·.1) ++ [x.1] <+: out ∧ SpansAt W x.2 (linksOf R x.1.toNat) ∧ ∀ k ∈ ks, x.2.ownBlock ≠ some k
theorem take_prefix {out : List Int} {i : Nat} (h : i < out.length) : out.take i ++ [out[i]] <+: out := by
  rw [← List.take_succ_eq_append_getElem h]
  exact List.take_prefix _ _
set_option maxHeartbeats 4000000 in
theorem fields1_tells (n : Nat) (hn : 1 ≤ n) (base B Bg : Nat) (R : Lks) (out : List Int) (ks : List Nat) (w0 w : World) (hG : GraphAt w0 base B R out) (hout : out.length ≤ 1000000) (hRl : R.length ≤ 1000000) (hll : ∀ k, k < R.length → (linksOf R k).length ≤ 1000000)
    (hin : ∀ z ∈ out, 0 ≤ z ∧ z < (R.length : Int)) (hks : ∀ k ∈ ks, w0.heap.size ≤ k ∧ k < w.heap.size) (hw : Mod [] w0 w) (hBg : w.heap[Bg]? = some (.cells #[.pointer (some ⟨B, 0, none⟩)] 26 (0, 0))) (hBk : Bg ∉ ks) :
    Tells Tryz.prog n 39 #[.pointer (some ⟨Bg, 0, none⟩)] encIL (TellF R out ks) ks (fun xs => xs.map (·.1) = out) w := by
  intro l J W hW hJ hY h0
  have hBW := hW.heap hBg (by simp)
  have cg := cell_blk hBW 0
  simp only [List.getElem?_toArray, List.getElem?_cons_zero] at cg
  have HC := Lib.hid (grOrder_any base B R out W (hG.kept0 (hw.trans hW)) hout)
  have HG := Lib.hid hG
  have HB := Lib.hid hBW
  have HM := Lib.hid (hw.trans hW)
  have HK := Lib.hid (show ∀ k ∈ ks, w0.heap.size ≤ k ∧ k < W.heap.size from fun k hk => ⟨(hks k hk).1, Nat.lt_of_lt_of_le (hks k hk).2 hW.size⟩)
  have HLL := Lib.hid hll
  have HIN := Lib.hid hin
  clear hG hW hw hks hll hin hBg hBW
  refine callsIn_of_wp Tryz.func39 rfl trivial ?_ rfl
  simp only [Tryz.ntmps39, List.size_toArray, List.length_cons, List.length_nil, Nat.reduceAdd, Nat.reduceSub, Array.replicate_succ, Array.replicate_zero, List.push_toArray, List.append_toArray, List.nil_append, List.cons_append]
  gi_wp2_with fail
  refine ⟨trivial, (callsIn_wide.2 HC.out).mono ?_⟩
  rintro e w1 ⟨v1, rfl, o1, m1⟩
  obtain ⟨a, c, rfl⟩ := o1.row.form
  have HO := Lib.hid o1
  have HB1 := Lib.hid (m1.heap HB.out (by simp))
  have HM1 := Lib.hid (HM.out.trans m1)
  have HJ1 := Lib.hid (show ∃ xs, xs.map (·.1) = out.take 0 ∧ J xs w1 from ⟨[], rfl, hJ _ _ _ h0 m1⟩)
  have HS1 := Lib.hid m1.size
  clear o1 m1 HC h0
  gi_wp2_with fail
  gi_loopw [8] (fun s8 wr => ∃ i : Nat, i ≤ out.length ∧ s8 = .int .i64 i ∧ Hid (∃ xs, xs.map (·.1) = out.take i ∧ J xs wr) ∧ Hid (Mod [] w0 wr) ∧ Hid (wr.heap[Bg]? = some (.cells #[.pointer (some ⟨B, 0, none⟩)] 26 (0, 0))) ∧ Hid (OwnN wr W.heap.size (.slice a out.length c) out) ∧ Hid (W.heap.size ≤ wr.heap.size)) (fun s8 _ => out.length - (intOf s8).toNat)
  case atStart => exact ⟨0, by omega, rfl, HJ1, HM1, HB1, HO, HS1⟩
  case round =>
    clear HJ1 HM1 HB1 HO HS1
    obtain ⟨i, hi, rfl, hJw, hM, hBw, hO, hS⟩ := hrel
    by_cases hlt : i < out.length
    · obtain ⟨b, o, rfl, hc, c0⟩ := hO.out.row.get1 hlt
      have hz := HIN.out _ (List.getElem_mem hlt)
      have HPre := Lib.hid (take_prefix hlt)
      have HT := Lib.hid (show out.take (i + 1) = out.take i ++ [out[i]] from List.take_succ_eq_append_getElem hlt)
      generalize out[i] = z at c0 hz HPre HT
      obtain ⟨k, rfl⟩ := Int.eq_ofNat_of_zero_le hz.1
      have hk : k < R.length := by omega
      have cgw := cell_blk hBw.out 0
      simp only [List.getElem?_toArray, List.getElem?_cons_zero] at cgw
      have HC2 := Lib.hid (grOn_any k base B R out wr (HG.out.kept0 hM.out) hk hRl (HLL.out k hk))
      clear hz
      gi_wp2_with fail
      refine ⟨trivial, (callsIn_wide.2 HC2.out).mono ?_⟩
      rintro e w2 ⟨v2, rfl, o2, m2⟩
      obtain ⟨xs, hxs, hjx⟩ := hJw.out
      obtain ⟨fn, tmps, assign, body, hy, hR⟩ := hY xs (k, v2) w2 (hJ _ _ _ hjx m2) ⟨by rw [hxs]; exact HPre.out, o2.row, fun b hb e => by have h1 := (World.ownsRow.lt o2 b e).1; have h2 := (HK.out b hb).2; have h3 := hS.out; omega⟩
      have HXS := Lib.hid hxs
      have HM2 := Lib.hid (hM.out.trans m2)
      have HB2 := Lib.hid (m2.heap hBw.out (by simp))
      have HO2 := Lib.hid (hO.out.kept0 m2)
      have HS2 := Lib.hid (Nat.le_trans hS.out m2.size)
      dsimp only [encIL] at hy
      clear HC2 hM hBw hO hJw hjx hxs o2 m2 hS
      gi_wp2
      refine hR.mono ?_
      rintro e w3 ⟨rfl, hJ3, hm3⟩
      have HJ3 := Lib.hid hJ3
      have HM3 := Lib.hid (HM2.out.newer hm3 (fun k hk => (HK.out k hk).1))
      have HB3 := Lib.hid (hm3.heap HB2.out hBk)
      have HO3 := Lib.hid (HO2.out.kept hm3 (fun b hb hx => by have h1 := (World.ownsRow.lt HO2.out b hb).1; have h2 := (HK.out b hx).2; omega))
      have HS3 := Lib.hid (Nat.le_trans HS2.out hm3.size)
      clear hJ3 hm3 HM2 HB2 HO2 HS2 hR hy
      gi_wp2
      go_roundw
      case rel => exact ⟨i + 1, by omega, by go_num, Lib.hid ⟨xs ++ [((k : Int), v2)], by rw [HT.out, List.map_append, HXS.out]; rfl, HJ3.out⟩, HM3, HB3, HO3, HS3⟩
      case measure => simp [intOf]; omega
    · have HE := Lib.hid (show out.take i = out by rw [List.take_of_length_le (by omega)])
      gi_wp2_with fail
      go_end0
      obtain ⟨xs, hxs, hjx⟩ := hJw.out
      exact ⟨⟨_, rfl⟩, xs, by rw [hxs, HE.out], hjx⟩
end Go.Proofs.YtefaihockgebeaaGreat
namespace Go.Proofs.YtefaihockgebeaaGreat
open Go.RowKit Go.ChangeMaps Go.Deep
set_option linter.unusedSimpArgs false
set_option linter.unusedVariables false
set_option maxRecDepth 20000

theorem made_none (n : Nat) : madeCells #[Value.slice none 0 0] n = Array.replicate n (.slice none 0 0) := made_one _ n
theorem run_makeSpanss (n : Nat) (hn : n ≤ 1000000) (w : World) : (Instr.makeSlice 23 (.int .i64 n) (.int .i64 n)).run Tryz.prog w = .ok (.slice (some ⟨w.heap.size, 0, none⟩) n n) (w.alloc (.cells (Array.replicate n (.slice none 0 0)) 30)) := by
  have h5 : (Tryz.prog.info? 30).map (fun i => (i.zero, i.size, i.bytes)) = some (some (.slice none 0 0), 1, 24) := by kernel_rfl
  obtain ⟨i0, hi, hz0, hz1, hz2⟩ := info_parts h5
  have h := run_make (P := Tryz.prog) (w := w) 23 30 i0 (.slice none 0 0) Tryz.underlying23 hi hz0 .i64 .i64 n n (by omega) (Int.le_refl _) (by rw [hz2]; omega) (by omega)
  rw [hz1, Nat.mul_one] at h
  have e : (Value.slice none 0 0).cells = #[.slice none 0 0] := rfl
  rw [e, made_one, Int.toNat_natCast] at h
  exact h
theorem flat_encV : ∀ l : List Value, flat encV l = l
  | [] => rfl
  | x :: l => by rw [flat_cons, flat_encV l]; rfl
theorem own_nones (w : World) (n base : Nat) (hb : base ≤ w.heap.size) (hn : n ≤ 1000000) : OwnR encV 1 30 (w.alloc (.cells (Array.replicate n (.slice none 0 0)) 30)) base (.slice (some ⟨w.heap.size, 0, none⟩) (List.replicate n (Value.slice none 0 0)).length n) (List.replicate n (.slice none 0 0)) := by
  refine ⟨flat_length encV_len _, .inr ⟨w.heap.size, n, _, rfl, hb, heap_alloc_new w _, by simp, by unfold maxLen; omega, by simp, ?_⟩⟩
  rw [List.length_replicate, Nat.mul_one, flat_encV]
  simp
theorem RowAt.put {α : Type} {enc : α → List Value} {w : World} {v : Value} {l : List α} (h : RowAt enc w v l) {k : Nat} {o o' : Obj} (hk : w.heap[k]? = some o) (ho : o.isCells = false) : RowAt enc (w.putObj k o') v l := by
  cases h with
  | nil a cap => exact .nil a cap
  | at_ b q cap l hc h =>
    refine .at_ b q cap l hc fun j u hj => ?_
    have h1 := h j u hj
    obtain ⟨o2, h2, h3⟩ := cells_of_cell h1
    rw [← h1]
    refine World.cell?_of_block (World.putObj_heap_other ?_)
    rintro rfl
    have h2' : w.heap[b]? = some o2 := h2
    rw [hk] at h2'
    cases h2'
    rw [ho] at h3
    cases h3
theorem cells_put {w : World} {b k : Nat} {c : Array Value} {t : TypeId} {f : Nat × Nat} {o o' : Obj} (h : w.heap[b]? = some (.cells c t f)) (hk : w.heap[k]? = some o) (ho : o.isCells = false) : (w.putObj k o').heap[b]? = some (.cells c t f) := by
  rw [World.putObj_heap_other (by rintro rfl; rw [hk] at h; cases h; cases ho)]
  exact h
theorem OwnR.put {α : Type} {enc : α → List Value} {k1 : Nat} {E : TypeId} {w : World} {base : Nat} {v : Value} {l : List α} (h : OwnR enc k1 E w base v l) {k : Nat} {o o' : Obj} (hk : w.heap[k]? = some o) (ho : o.isCells = false) : OwnR enc k1 E (w.putObj k o') base v l := by
  refine ⟨h.1, ?_⟩
  rcases h.2 with h2 | ⟨g, cap, cur, rfl, hb, hg, h3⟩
  · exact .inl h2
  · exact .inr ⟨g, cap, cur, rfl, hb, cells_put hg hk ho, h3⟩
theorem Mod.putNew {ks : List Nat} {w W : World} (h : Mod ks w W) {D : Nat} (hD : w.heap.size ≤ D) (o : Obj) : Mod ks w (W.putObj D o) :=
  ⟨h.os, h.tape, h.output, by simpa using h.size, fun k hk hn => (World.putObj_heap_other (by omega)).trans (h.block k hk hn)⟩
/-- what lies while fields are touched: the days asked (own), the days found (vs, rows); all that is done stands right -/
structure DrAt (w Wd : World) (b3 b6 rb n : Nat) (v : Value) (us : List Value) (L : Lks) (W : List (List Sp)) (done : List Int) (vs : List Value) (rows : List (List Sp)) : Prop where
  mod : Mod [] w Wd
  own : Wd.heap[b3]? = some (.cells #[v] 23 (0, 0))
  box : Wd.heap[b6]? = some (.cells #[.slice (some ⟨rb, 0, none⟩) n n] 23 (0, 0))
  row : OwnR encV 1 30 Wd w.heap.size (.slice (some ⟨rb, 0, none⟩) vs.length n) vs
  vl : vs.length = n
  rl : rows.length = n
  part : ∀ j (h : j < vs.length), SpansAt Wd vs[j] (linksOf rows j)
  off : ∀ j (h : j < vs.length), vs[j].ownBlock ≠ some rb
  set : ∀ z ∈ done, IsSet (Tch L W z) (linksOf rows z.toNat)
section
variable {w Wd : World} {b3 b6 rb n : Nat} {v : Value} {us : List Value} {L : Lks} {W : List (List Sp)} {done : List Int} {vs : List Value} {rows : List (List Sp)}
theorem DrAt.kept0 {We : World} (h : DrAt w Wd b3 b6 rb n v us L W done vs rows) (hm : Mod [] Wd We) : DrAt w We b3 b6 rb n v us L W done vs rows :=
  ⟨h.mod.trans hm, hm.heap h.own (by simp), hm.heap h.box (by simp), h.row.kept0 hm, h.vl, h.rl, fun j a => (h.part j a).kept0 hm, h.off, h.set⟩
theorem DrAt.put (h : DrAt w Wd b3 b6 rb n v us L W done vs rows) {k : Nat} {o o' : Obj} (hb : w.heap.size ≤ k) (hk : Wd.heap[k]? = some o) (ho : o.isCells = false) : DrAt w (Wd.putObj k o') b3 b6 rb n v us L W done vs rows :=
  ⟨h.mod.putNew hb o', cells_put h.own hk ho, cells_put h.box hk ho, h.row.put hk ho, h.vl, h.rl, fun j a => (h.part j a).put hk ho, h.off, h.set⟩
theorem DrAt.rbs (h : DrAt w Wd b3 b6 rb n v us L W done vs rows) : w.heap.size ≤ rb ∧ rb < Wd.heap.size := by
  have := World.ownsRow.lt h.row rb (by simp [Value.ownBlock])
  exact this
theorem DrAt.mono {done' : List Int} (h : DrAt w Wd b3 b6 rb n v us L W done vs rows) (hd : ∀ z ∈ done', IsSet (Tch L W z) (linksOf rows z.toNat)) : DrAt w Wd b3 b6 rb n v us L W done' vs rows :=
  ⟨h.mod, h.own, h.box, h.row, h.vl, h.rl, h.part, h.off, hd⟩
theorem linksOf_set (rows : List (List Sp)) (k j : Nat) (x : List Sp) (hk : k < rows.length) : linksOf (rows.set k x) j = if k = j then x else linksOf rows j := by
  simp only [linksOf, List.getD_eq_getElem?_getD, List.getElem?_set]
  split
  · rename_i e
    subst e
    simp [hk]
  · rfl
theorem DrAt.box_ne (h : DrAt w Wd b3 b6 rb n v us L W done vs rows) : b3 ≠ rb ∧ b6 ≠ rb := by
  have h1 := h.row.typed (E' := 23) h.own (by decide)
  have h2 := h.row.typed (E' := 23) h.box (by decide)
  exact ⟨fun e => h1 (by simp [Value.ownBlock, e]), fun e => h2 (by simp [Value.ownBlock, e])⟩
theorem DrAt.store {w7 : World} {base k : Nat} {x : Value} {out : List Sp} (h : DrAt w Wd b3 b6 rb n v us L W done vs rows) (hm : Mod [] Wd w7) (ho : OwnS w7 base x out) (hb : Wd.heap.size ≤ base) (hk : k < n) (hnd : (k : Int) ∉ done) (h0 : ∀ z ∈ done, 0 ≤ z) :
    DrAt w (w7.setCell ⟨rb, k, none⟩ x) b3 b6 rb n v us L W done (vs.set k x) (rows.set k out) := by
  have h7 := h.kept0 hm
  obtain ⟨hr0, hr1⟩ := h.rbs
  obtain ⟨n3, n6⟩ := h7.box_ne
  have hx : x.ownBlock ≠ some rb := fun e => by have := (World.ownsRow.lt ho rb e).1; omega
  have hmr : Mod [rb] w7 (w7.setCell ⟨rb, k, none⟩ x) := (Mod.refl [rb] w7).setCell (p := ⟨rb, k, none⟩) (by simp) x
  refine ⟨h7.mod.setCellNew (p := ⟨rb, k, none⟩) (by exact hr0) x, hmr.heap h7.own (by simpa using n3), hmr.heap h7.box (by simpa using n6), ?_, by rw [List.length_set]; exact h.vl, by rw [List.length_set]; exact h.rl, ?_, ?_, ?_⟩
  · have := h7.row.set encV_len (i := k) (j := 0) (by rw [h.vl]; exact hk) (by omega) (u := x) (y := x) rfl
    rw [Nat.mul_one, Nat.add_zero] at this
    rwa [List.length_set]
  · intro j hj
    rw [List.length_set] at hj
    rw [linksOf_set _ _ _ _ (by rw [h.rl]; exact hk), List.getElem_set]
    split
    · exact ho.row.kept hmr (fun b hb => by simp at hb; subst hb; exact hx)
    · exact (h7.part j hj).kept hmr (fun b hb => by simp at hb; subst hb; exact h7.off j hj)
  · intro j hj
    rw [List.length_set] at hj
    rw [List.getElem_set]
    split
    · exact hx
    · exact h7.off j hj
  · intro z hz
    rw [linksOf_set _ _ _ _ (by rw [h.rl]; exact hk), if_neg (by intro e; apply hnd; have := h0 z hz; rw [e, Int.toNat_of_nonneg this]; exact hz)]
    exact h.set z hz
/-- a day row found is read -/
theorem DrAt.get (h : DrAt w Wd b3 b6 rb n v us L W done vs rows) {k : Nat} (hk : k < n) : ∃ a m c, vs.getD k (.slice none 0 0) = .slice a m c ∧ m = (linksOf rows k).length ∧ Wd.cell? ⟨rb, k, none⟩ = some (.slice a m c) ∧ Wd.frozen? ⟨rb, k, none⟩ = false ∧ SpansAt Wd (.slice a m c) (linksOf rows k) := by
  have hkv : k < vs.length := by rw [h.vl]; exact hk
  have hp := h.part k hkv
  obtain ⟨a, c, e⟩ := hp.form
  obtain ⟨h1, h2⟩ := h.row.cell encV_len (i := k) (j := 0) hkv (by omega) (u := vs[k]) rfl
  rw [Nat.mul_one, Nat.add_zero] at h1 h2
  rw [e] at hp h1
  exact ⟨a, _, c, by rw [List.getD_eq_getElem?_getD, List.getElem?_eq_getElem hkv]; exact e, rfl, h1, h2, hp⟩
end
end Go.Proofs.YtefaihockgebeaaGreat
namespace Go.Proofs.YtefaihockgebeaaGreat
open Go.RowKit Go.ChangeMaps Go.Deep
set_option linter.unusedSimpArgs false
set_option linter.unusedVariables false
set_option maxRecDepth 20000
attribute [local go_sem] Oper.semAt_some

theorem alloc_named2 (w : World) (o : Obj) : ∃ A, w.alloc o = A ∧ A.heap[w.heap.size]? = some o ∧ A.heap.size = w.heap.size + 1 ∧ Mod [] w A :=
  ⟨_, rfl, heap_alloc_new w o, by simp, (Mod.refl [] w).alloc o⟩
theorem drFields_any (p : Value) (w : World) (hp : ∃ a, p = .pointer a) : Calls Tryz.prog 20 #[p] w fun e w' => e = .returned (.func (.func 39) #[] #[.pointer (some ⟨w.heap.size, 0, none⟩)]) ∧ w' = w.alloc (.cells #[p] 26) := by
  obtain ⟨a, rfl⟩ := hp
  go_enter Tryz.func20, Tryz.ntmps20
  go_wp2
  go_ret
  exact ⟨rfl, rfl⟩
def TouchPost (w : World) (R : Lks) (W : List (List Sp)) (n : Nat) (e : Ending) (w' : World) : Prop :=
  Mod [] w w' ∧ ∃ v' vs rows, e = .returned (.tuple #[v', .int .i64 0]) ∧ PartsAt w' v' vs rows ∧ rows.length = n ∧ ∀ k, k < n → IsSet (Tch R W k) (linksOf rows k)
set_option maxHeartbeats 4000000 in
theorem drTouch_any (base B n : Nat) (R : Lks) (out : List Int) (v : Value) (us : List Value) (W : List (List Sp)) (w : World) (h : GraphAt w base B R out) (hp : PartsAt w v us W) (hn : n ≤ 64) (hRl : R.length = n) (ho : Ordered R n out) (hol : out.length = n) (hWl : W.length = n)
    (hll : ∀ k, k < n → (linksOf R k).length ≤ 1000000) (hlb : ∀ k x, x ∈ linksOf R k → 0 ≤ x.2) (hWW : ∀ l ∈ W, l.length ≤ 1000000) (hbg : (begins W).length ≤ 40000) :
    Calls Tryz.prog 8 #[.pointer (some ⟨B, 0, none⟩), v] w fun e w' => TouchPost w R W n e w' := by
  obtain ⟨a, c, rfl⟩ := hp.row.form
  have hul : us.length = n := by rw [hp.len, hWl]
  rw [hul] at hp ⊢
  obtain ⟨A1, hA1, n1, s1, m1⟩ := alloc_named2 w (.cells #[.slice a n c] 23)
  have HG := Lib.hid (h.kept0 m1)
  have HP := Lib.hid (hp.kept0 m1)
  have HN1 := Lib.hid n1
  have HM1 := Lib.hid m1
  have c0 := cell_blk n1 0
  simp only [List.getElem?_toArray, List.getElem?_cons_zero] at c0
  have HO := Lib.hid ho
  have HLL := Lib.hid hll
  have HLB := Lib.hid hlb
  have HWW := Lib.hid hWW
  have HC := Lib.hid (fun (u : World) (hu : Mod [] A1 u) => grOrder_any base B R out u (HG.out.kept0 hu) (by omega))
  clear h hp hll hlb hWW n1 m1 ho
  refine (callsIn_wide (n := 5)).1 ?_
  refine callsIn_of_wp_marks Tryz.func8 rfl trivial ?_ rfl
  simp only [Tryz.ntmps8, List.size_toArray, List.length_cons, List.length_nil, Nat.reduceAdd, Nat.reduceSub, Array.replicate_succ, Array.replicate_zero, List.push_toArray, List.append_toArray, List.nil_append, List.cons_append]
  gi_wp2_with fail
  refine wpIn_wide.2 ?_
  refine wp_plan [([0, 2, 1], 3, [0, 1])] [4, 5] (by kernel_rfl) (by kernel_rfl) ?_
  simp only [wpSegs, opsOf, List.map_cons, List.map_nil, opN, List.getD_cons_zero, List.getD_cons_succ]
  go_wp2_with fail
  refine ⟨by first | trivial | rfl, ?_⟩
  go_wp2_with fail
  refine (HC.out _ (Mod.refl [] A1).drew).mono ?_
  rintro e w1 ⟨v1, rfl, o1, m1⟩
  have hm1 := (Mod.refl [] A1).drew.trans m1
  obtain ⟨a1, c1, rfl⟩ := o1.row.form
  have HO1 := Lib.hid o1
  have HB1 := Lib.hid (hm1.heap HN1.out (by simp))
  have HMa := Lib.hid hm1
  have d0 := cell_blk HB1.out 0
  simp only [List.getElem?_toArray, List.getElem?_cons_zero] at d0
  have hmk : ∀ u : World, (Instr.makeSlice 23 (.int .i64 n) (.int .i64 n)).run Tryz.prog u = .ok (.slice (some ⟨u.heap.size, 0, none⟩) n n) (u.alloc (.cells (Array.replicate n (.slice none 0 0)) 30)) := fun u => run_makeSpanss n (by omega) u
  have hne : ((n : Int) != (out.length : Int)) = false := by rw [hol]; simp
  clear o1 m1 HC hm1
  go_wp2_with fail
  refine ⟨?ag1, ?_⟩
  case ag1 =>
    intro i hi hw
    simp only [List.mem_cons, List.not_mem_nil, or_false] at hi
    rcases hi with rfl | rfl
    all_goals (simp only [opN, List.getD_cons_zero, List.getD_cons_succ, slotOf]; go_simp)
  go_wp2_with fail
  refine ⟨by first | trivial | rfl, ?_⟩
  go_wp2_with fail
  gi_wp2_with fail
  refine ⟨trivial, (callsIn_wide.2 (drFields_any _ _ ⟨_, rfl⟩)).mono ?_⟩
  rintro e w' ⟨rfl, rfl⟩
  obtain ⟨A2, hA2, n2, s2, m2⟩ := alloc_named2 w1 (.cells (Array.replicate n (.slice none 0 0)) 30)
  obtain ⟨A3, hA3, n3, s3, m3⟩ := alloc_named2 A2 (.cells #[.slice (some ⟨w1.heap.size, 0, none⟩) n n] 23)
  obtain ⟨W0, hA4, n4, s4, m4⟩ := alloc_named2 A3 (.cells #[.pointer (some ⟨B, 0, none⟩)] 26)
  rw [s2] at n3 s3
  rw [s3] at n4 s4
  have HR0 := Lib.hid (own_nones w1 n w1.heap.size (Nat.le_refl _) (by omega))
  rw [hA2] at HR0
  gi_wp2_with fail
  have HMW := Lib.hid (m2.trans (m3.trans m4))
  have HSW := Lib.hid s4
  have HI0 : Hid (DrAt w1 W0 w.heap.size (w1.heap.size + 1) w1.heap.size n (.slice a n c) us R W [] (List.replicate n (.slice none 0 0)) (List.replicate n [])) := Lib.hid
    ⟨HMW.out, HMW.out.heap HB1.out (by simp), m4.heap n3 (by simp), by have := HR0.out.kept0 (m3.trans m4); exact this, by simp, by simp, fun j hj => by
      rw [List.length_replicate] at hj
      rw [List.getElem_replicate, show linksOf (List.replicate n ([] : List Sp)) j = [] by simp [linksOf, hj]]
      exact .nil none 0, fun j hj => by rw [List.getElem_replicate]; simp [Value.ownBlock], fun z hz => by simp at hz⟩
  have HGW := Lib.hid (HG.out.kept0 HMa.out)
  have HPW := Lib.hid (HP.out.kept0 HMa.out)
  have HN4 := Lib.hid n4
  clear n2 n3 n4 m2 m3 m4 hA1 hA2 hA3 hA4 HR0 hmk c0 d0 s2 s3 HG HP s4
  refine range_tells (by omega) rfl (enters_of Tryz.func39 (by kernel_rfl) rfl) (fun _ => rfl) (ks := [w1.heap.size]) (by intro k hk; simp at hk; have := HSW.out; omega)
    (fields1_tells _ (by omega) base B _ R out _ w1 W0 HGW.out (by omega) (by omega) (fun k hk => HLL.out k (by omega)) (fun z hz => by have := HO.out.below z hz; omega) (by intro k hk; simp at hk; have := HSW.out; omega) HMW.out HN4.out (by intro h; simp at h; try omega))
    (fun pre Wd => ∃ vs rows, DrAt w1 Wd w.heap.size (w1.heap.size + 1) w1.heap.size n (.slice a n c) us R W (pre.map (·.1)) vs rows)
    (fun pre => ⟨fun X Y hd hm => by obtain ⟨vs, rows, hd⟩ := hd; exact ⟨vs, rows, hd.kept0 hm⟩, fun X l o o' hb hl hc hd => by obtain ⟨vs, rows, hd⟩ := hd; exact ⟨vs, rows, hd.put (Nat.le_trans HMW.out.size hb) hl hc⟩⟩)
    (fun pre x => ⟨fun X Y hd hm => ⟨hd.1, hd.2.1.kept0 hm, hd.2.2⟩, fun X l o o' hb hl hc hd => ⟨hd.1, hd.2.1.put hl hc, hd.2.2⟩⟩)
    ⟨_, _, HI0.out⟩ ?a1 ?assign ?body ?done
  case assign =>
    rintro l x Wd K hK
    dsimp only [encIL]
    gi_wp2
    exact hK
  case done =>
    rintro D xs Wd hD hS ⟨vs, rows, hd⟩ hK
    have b0 := cell_blk hd.box 0
    simp only [List.getElem?_toArray, List.getElem?_cons_zero] at b0
    have HD := Lib.hid hd
    have HK := Lib.hid hK
    clear hd hK
    gi_wp2_with fail
    refine ⟨by simp, .inl ⟨_, _, rfl, run_takeDeferred HK.out, ?_⟩⟩
    have hDb : w1.heap.size ≤ D := Nat.le_trans HMW.out.size hD
    have hp := HD.out.put (o' := .deferred none) hDb HK.out rfl
    refine ⟨.tuple #[.slice (some ⟨w1.heap.size, 0, none⟩) n n, .int .i64 0], by simp [results, Tryz.results8, go_sem], (HM1.out.trans HMa.out).trans hp.mod, _, vs, rows, rfl, ⟨by have := hp.row.row; rwa [hp.vl] at this, by rw [hp.vl, hp.rl], fun j h1 h2 => by have := hp.part j h1; rwa [show linksOf rows j = rows[j] by simp [linksOf, h2]] at this⟩, hp.rl, fun k hk => ?_⟩
    refine hp.set k ?_
    rw [hS]
    exact below_full HO.out.nodup HO.out.below (by omega) (by omega) (by omega)
  case body =>
    rintro l pre ⟨f, lv⟩ Wd hl ⟨vs, rows, hd⟩ ⟨hpre, hlv, hoff⟩
    dsimp only at hpre hlv hoff ⊢
    obtain ⟨tl, htl⟩ := hpre
    have hf := HO.out.below f (by rw [← htl]; simp)
    obtain ⟨k, rfl⟩ := Int.eq_ofNat_of_zero_le hf.1
    have hkn : k < n := by omega
    have hks : (k : Int) ∉ pre.map (·.1) := fun hm => by
      have h1 := HO.out.nodup
      rw [← htl, List.append_assoc, List.nodup_append] at h1
      exact h1.2.2 _ hm _ (by simp) rfl
    have hpos : ∀ z ∈ pre.map (·.1), 0 ≤ z ∧ z < (n : Int) := fun z hz => HO.out.below z (by rw [← htl]; simp at hz ⊢; exact .inl hz)
    have HLK := Lib.hid (show ∀ x ∈ linksOf R k, x.1 ∈ pre.map (·.1) from fun x hx => HO.out.links (pre.map (·.1)) k tl (by rw [← htl]; simp) x (by simpa using hx))
    have HKS := Lib.hid hks
    have HPOS := Lib.hid hpos
    have HD := Lib.hid hd
    obtain ⟨ob, oo, pa, pc, rfl, hoc, q0, hs⟩ := (HPW.out.kept0 hd.mod).get hul hkn
    have hWk : linksOf W k = ownOf W k := by simp [linksOf, ownOf]
    have b0 := cell_blk hd.box 0
    have e0 := cell_blk hd.own 0
    simp only [List.getElem?_toArray, List.getElem?_cons_zero] at b0 e0
    rw [Int.toNat_natCast] at hlv
    obtain ⟨la, lc, rfl⟩ := hlv.form
    have hlk1 : (linksOf R k).length ≤ 1000000 := HLL.out k hkn
    clear hf hks hpos htl hd
    gi_wp2_with fail
    have HC7 := Lib.hid (spOf_any _ _ Wd.drew (hs.kept0 (Mod.refl [] Wd).drew) (by
      have h1 : k < W.length := by omega
      rw [show linksOf W k = W[k] by simp [linksOf, h1]]
      exact HWW.out _ (List.getElem_mem h1)))
    refine wp_planR [([0, 1, 2, 3, 4, 5], 6, [0]), ([7], 8, [])] [] (by kernel_rfl) (by kernel_rfl) (by kernel_rfl) (by rintro ⟨_, _, h⟩; first | exact h.elim | (exact absurd h.1 (by simp)) | cases h) ?_
    simp only [wpSegs, opsOf, List.map_cons, List.map_nil, opN, List.getD_cons_zero, List.getD_cons_succ]
    go_wp2_with fail
    refine ⟨by first | trivial | rfl, ?_⟩
    go_wp2_with fail
    refine HC7.out.mono ?_
    rintro e w7 ⟨v7, out7, rfl, o7, m7, i7, -⟩
    obtain ⟨a7, c7, rfl⟩ := o7.row.form
    have hm7 := (Mod.refl [] Wd).drew.trans m7
    have hd7 := HD.out.kept0 hm7
    obtain ⟨ga, gm, gc, _, _, g0, g1, _⟩ := hd7.get hkn
    have b7 := cell_blk hd7.box 0
    simp only [List.getElem?_toArray, List.getElem?_cons_zero] at b7
    have HD7 := Lib.hid (HD.out.store hm7 o7 (by simp) hkn HKS.out (fun z hz => (HPOS.out z hz).1))
    have HM7 := Lib.hid ((hm7.nil (l := [w1.heap.size])).setCell (p := ⟨w1.heap.size, k, none⟩) (by simp) (.slice a7 out7.length c7))
    have HL7 := Lib.hid ((hlv.kept0 hm7).kept ((Mod.refl [w1.heap.size] w7).setCell (p := ⟨w1.heap.size, k, none⟩) (by simp) (.slice a7 out7.length c7)) (by simpa using hoff _ (by simp)))
    have HI7 := Lib.hid (show IsSet (Part R W k []) out7 from set_own (by rw [← hWk]; exact i7))
    clear hm7 hd7 o7 m7 HC7 i7
    go_wp2_with fail
    refine ⟨?ag7, ?_⟩
    case ag7 =>
      intro i hi hw
      simp only [List.mem_cons, List.not_mem_nil, or_false] at hi
      subst hi
      all_goals (simp only [opN, List.getD_cons_zero, List.getD_cons_succ, slotOf]; go_simp)
    go_wp2_with fail
    refine ⟨by first | trivial | rfl, ?_⟩
    go_wp2_with fail
    refine ⟨again_nil, ?_⟩
    go_wp2_with fail
    refine ⟨by first | trivial | rfl, ?_⟩
    go_wp2_with fail
    have HST := Lib.hid (show ∃ vs rows, DrAt w1 (w7.setCell ⟨w1.heap.size, k, none⟩ (.slice a7 out7.length c7)) w.heap.size (w1.heap.size + 1) w1.heap.size n (.slice (some ⟨ob, oo, none⟩) n c) us R W (pre.map (·.1)) vs rows ∧ IsSet (Part R W k ((linksOf R k).take 0)) (linksOf rows k) from
      ⟨_, _, HD7.out, by rw [linksOf_set _ _ _ _ (by rw [HD.out.rl]; exact hkn), if_pos rfl]; exact HI7.out⟩)
    generalize w7.setCell ⟨w1.heap.size, k, none⟩ (.slice a7 out7.length c7) = W8 at HST HM7 HL7 ⊢
    clear HD7 HI7 HD hs q0 b0 e0 g0 g1 b7
    gi_wp2_with fail
    gi_loopw [34] (fun s34 wr => ∃ j : Nat, j ≤ (linksOf R k).length ∧ s34 = .int .i64 j ∧ Hid (∃ vs rows, DrAt w1 wr w.heap.size (w1.heap.size + 1) w1.heap.size n (.slice (some ⟨ob, oo, none⟩) n c) us R W (pre.map (·.1)) vs rows ∧ IsSet (Part R W k ((linksOf R k).take j)) (linksOf rows k)) ∧ Hid (SpansAt wr (.slice la (linksOf R k).length lc) (linksOf R k)) ∧ Hid (Mod [w1.heap.size] Wd wr)) (fun s34 _ => (linksOf R k).length - (intOf s34).toNat)
    case atStart => exact ⟨0, by omega, rfl, HST, HL7, HM7⟩
    case round =>
      clear HST HL7 HM7
      obtain ⟨j, hj, rfl, hS, hL, hM⟩ := hrel
      by_cases hlt : j < (linksOf R k).length
      · obtain ⟨xb, xo, rfl, hxc, x0, x1⟩ := hL.out.get2 hlt
        have HX := Lib.hid (HLK.out _ (List.getElem_mem hlt))
        have hx2 := HLB.out k _ (List.getElem_mem hlt)
        have HT := Lib.hid (show (linksOf R k).take (j + 1) = (linksOf R k).take j ++ [(linksOf R k)[j]] from List.take_succ_eq_append_getElem hlt)
        generalize (linksOf R k)[j] = x at x0 x1 HX hx2 HT
        obtain ⟨t1, x2⟩ := x
        dsimp only at x0 x1 HX hx2
        have ht := HPOS.out t1 HX.out
        obtain ⟨t, rfl⟩ := Int.eq_ofNat_of_zero_le ht.1
        have htn : t < n := by omega
        obtain ⟨vs2, rows2, hd2, hi2⟩ := hS.out
        have hit := hd2.set t HX.out
        rw [Int.toNat_natCast] at hit
        have hlt2 : (linksOf rows2 t).length ≤ 40000 := Nat.le_trans (hit.len (S := begins W) fun d h1 h2 => begins_tch HLB.out h1 h2) hbg
        have hlk2 : (linksOf rows2 k).length ≤ 40000 := Nat.le_trans (hi2.len (S := begins W) fun d h1 h2 => begins_part HLB.out (fun y hy => HLB.out k y (List.mem_of_mem_take hy)) h1 h2) hbg
        obtain ⟨Wx, hWx, nx, sx, mx⟩ := alloc_named2 wr (.cells #[.int .i64 t, .int .i64 x2] 41)
        have hdx := hd2.kept0 mx
        have y0 := cell_blk nx 0
        have y1 := cell_blk nx 1
        have b9 := cell_blk hdx.box 0
        simp only [List.getElem?_toArray, List.getElem?_cons_succ, List.getElem?_cons_zero] at y0 y1 b9
        obtain ⟨ka, _, kc, ek, rfl, kg0, kg1, hks⟩ := hdx.get hkn
        obtain ⟨ta, _, tc, _, rfl, tg0, _, hts⟩ := hdx.get htn
        have HCW := Lib.hid (spWide_any _ _ x2 Wx.drew (hts.kept0 (Mod.refl [] Wx).drew) (by omega))
        have HDX := Lib.hid hdx
        have HKR := Lib.hid hks
        have HI2 := Lib.hid hi2
        have HIT := Lib.hid hit
        have HMX := Lib.hid mx
        have HX2 := Lib.hid hx2
        clear hS hd2 hi2 hit hdx hks hts ht hx2 mx nx
        gi_wp2_with fail
        refine wp_planR [([0, 1, 2, 3, 6, 7, 11, 8, 12, 4, 5, 9, 10], 13, [0, 2, 4, 5]), ([], 14, [0]), ([15], 16, [])] [] (by kernel_rfl) (by kernel_rfl) (by kernel_rfl) (by rintro ⟨_, _, h⟩; first | exact h.elim | (exact absurd h.1 (by simp)) | cases h) ?_
        simp only [wpSegs, opsOf, List.map_cons, List.map_nil, opN, List.getD_cons_zero, List.getD_cons_succ]
        go_wp2_with fail
        refine ⟨by first | trivial | rfl, ?_⟩
        go_wp2_with fail
        refine HCW.out.mono ?_
        rintro e w9 ⟨v9, m9, o9, rfl, ow9, mm9, im9, io9, il9⟩
        obtain ⟨a9, c9, rfl⟩ := ow9.row.form
        have hm9 := (Mod.refl [] Wx).drew.trans mm9
        have hd9 := HDX.out.kept0 hm9
        have b10 := cell_blk hd9.box 0
        simp only [List.getElem?_toArray, List.getElem?_cons_zero] at b10
        obtain ⟨ka9, _, kc9, e9, rfl, kg9, kh9, _⟩ := hd9.get hkn
        rw [ek] at e9
        simp only [Value.slice.injEq, true_and] at e9
        obtain ⟨rfl, rfl⟩ := e9
        have HCU := Lib.hid (spUnion_any _ _ (linksOf rows2 k) o9 w9 (HKR.out.kept0 hm9) ow9.row (by omega) (by omega))
        have HM9 := Lib.hid hm9
        have HI9 := Lib.hid im9
        have HO9 := Lib.hid io9
        clear HCW ow9 mm9 im9 io9 hm9 hd9
        go_wp2_with fail
        refine ⟨?ag9, ?_⟩
        case ag9 =>
          intro i hi hw
          simp only [List.mem_cons, List.not_mem_nil, or_false] at hi
          rcases hi with rfl | rfl | rfl | rfl
          all_goals (simp only [opN, List.getD_cons_zero, List.getD_cons_succ, slotOf]; go_simp)
        go_wp2_with fail
        refine ⟨by first | trivial | rfl, ?_⟩
        go_wp2_with fail
        refine HCU.out.mono ?_
        rintro e w10 ⟨v10, o10, rfl, ow10, mm10, ib10, -⟩
        obtain ⟨a10, c10, rfl⟩ := ow10.row.form
        have hm10 := HM9.out.trans mm10
        have hd10 := HDX.out.kept0 hm10
        have b11 := cell_blk hd10.box 0
        simp only [List.getElem?_toArray, List.getElem?_cons_zero] at b11
        obtain ⟨_, _, _, _, rfl, kg10, kh10, _⟩ := hd10.get hkn
        have HDN := Lib.hid (HDX.out.store hm10 ow10 HM9.out.size hkn HKS.out (fun z hz => (HPOS.out z hz).1))
        have HMN := Lib.hid (hM.out.trans (((HMX.out.trans hm10).nil (l := [w1.heap.size])).setCell (p := ⟨w1.heap.size, k, none⟩) (by simp) (.slice a10 o10.length c10)))
        have HLN := Lib.hid ((hL.out.kept0 (HMX.out.trans hm10)).kept ((Mod.refl [w1.heap.size] w10).setCell (p := ⟨w1.heap.size, k, none⟩) (by simp) (.slice a10 o10.length c10)) (by simpa using hoff _ (by simp)))
        have HIN := Lib.hid (show IsSet (Part R W k ((linksOf R k).take (j + 1))) o10 from by
          rw [HT.out]
          exact set_link (x := ((t : Int), x2)) HI2.out HIT.out HI9.out HO9.out rfl HX2.out ib10)
        have HRL := Lib.hid hd10.rl
        clear HCU ow10 mm10 ib10 hm10 hd10
        go_wp2_with fail
        refine ⟨?ag10, ?_⟩
        case ag10 =>
          intro i hi hw
          simp only [List.mem_cons, List.not_mem_nil, or_false] at hi
          subst hi
          all_goals (simp only [opN, List.getD_cons_zero, List.getD_cons_succ, slotOf]; go_simp)
        go_wp2_with fail
        refine ⟨by first | trivial | rfl, ?_⟩
        go_wp2_with fail
        refine ⟨again_nil, ?_⟩
        go_wp2_with fail
        refine ⟨by first | trivial | rfl, ?_⟩
        go_wp2_with fail
        gi_wp2_with fail
        go_roundw
        case rel => exact ⟨j + 1, by omega, by go_num, Lib.hid ⟨_, _, HDN.out, by rw [linksOf_set _ _ _ _ (by rw [HRL.out]; exact hkn), if_pos rfl]; exact HIN.out⟩, HLN, HMN⟩
        case measure => simp [intOf]; omega
      · have HE := Lib.hid (show (linksOf R k).take j = linksOf R k by rw [List.take_of_length_le (by omega)])
        gi_wp2_with fail
        obtain ⟨vs2, rows2, hd2, hi2⟩ := hS.out
        rw [HE.out] at hi2
        refine ⟨⟨vs2, rows2, hd2.mono fun z hz => ?_⟩, hM.out⟩
        rcases List.mem_append.1 hz with hz | hz
        · exact hd2.set z hz
        · simp at hz
          subst hz
          rw [Int.toNat_natCast]
          exact hi2.congr fun d => by
            have := part_all (L := R) (W := W) (f := (k : Int)) (d := d)
            rwa [Int.toNat_natCast] at this
end Go.Proofs.YtefaihockgebeaaGreat
namespace Go.Proofs.YtefaihockgebeaaGreat
open Go.RowKit Go.ChangeMaps Go.Deep
set_option linter.unusedSimpArgs false
set_option linter.unusedVariables false
set_option maxRecDepth 20000

theorem Mod.cellD {w w' : World} {a : Addr} {v : Value} (h : Mod [] w w') (hc : w.cell? a = some v) : w'.cell? a = some v := by
  obtain ⟨o, ho, _⟩ := cells_of_cell hc
  rw [← hc]
  exact World.cell?_of_block (h.block _ (lt_of_heap ho) (by simp))
set_option maxHeartbeats 4000000 in
theorem rTouched_go (n : Nat) (L : Lks) (W : List (List Sp)) (out : List Int) (ho : Ordered L n out) (hn : n ≤ 1000000) (hLl : L.length = n) (hWl : W.length = n) (hll : ∀ k, k < n → (linksOf L k).length ≤ 1000000) (hlb : ∀ k x, x ∈ linksOf L k → 0 ≤ x.2) (hWW : ∀ l ∈ W, l.length ≤ 20000) (hbg : (begins W).length ≤ 2000) (a1 a2 : Option Addr) (c1 c2 : Nat) (us xs : List Value) :
    ∀ (m : Nat) (a : List Int) (k : Int) (b : List Int), out = a ++ k :: b → a.length < m → ∀ w, PartsAt w (.slice a1 n c1) us L → PartsAt w (.slice a2 n c2) xs W →
      Calls Tryz.prog 10 #[.slice a1 n c1, .slice a2 n c2, .int .i64 k] w fun e w' => ∃ v' row, e = .returned v' ∧ OwnS w' w.heap.size v' row ∧ Mod [] w w' ∧ IsSet (Tch L W k) row := by
  intro m
  induction m with
  | zero => intro a k b _ h; omega
  | succ m ih =>
    intro a k b hout ham w hp hq
    have hk := ho.below k (by rw [hout]; simp)
    obtain ⟨k, rfl⟩ := Int.eq_ofNat_of_zero_le hk.1
    have hkn : k < n := by omega
    have hus : us.length = n := by rw [hp.len, hLl]
    have hxs : xs.length = n := by rw [hq.len, hWl]
    have HP := Lib.hid hp
    have HQ := Lib.hid hq
    have HLB := Lib.hid hlb
    have HIH := Lib.hid (show ∀ x ∈ linksOf L k, ∀ w, PartsAt w (.slice a1 n c1) us L → PartsAt w (.slice a2 n c2) xs W →
      Calls Tryz.prog 10 #[.slice a1 n c1, .slice a2 n c2, .int .i64 x.1] w fun e w' => ∃ v' row, e = .returned v' ∧ OwnS w' w.heap.size v' row ∧ Mod [] w w' ∧ IsSet (Tch L W x.1) row from fun x hx w h1 h2 => by
        have hm := ho.links a k b hout x (by simpa using hx)
        obtain ⟨p, q, rfl⟩ := List.append_of_mem hm
        exact ih p x.1 (q ++ (k : Int) :: b) (by rw [hout]; simp) (by simp at ham; omega) w h1 h2)
    have HLN := Lib.hid (show ∀ (row : List Sp) (i : Nat), IsSet (Part L W k ((linksOf L k).take i)) row → row.length ≤ 2000 from fun row i h => Nat.le_trans (h.len (S := begins W) fun d h1 h2 => begins_part hlb (fun y hy => hlb k y (List.mem_of_mem_take hy)) h1 h2) hbg)
    have HLT := Lib.hid (show ∀ (row : List Sp) (z : Int), IsSet (Tch L W z) row → row.length ≤ 2000 from fun row z h => Nat.le_trans (h.len (S := begins W) fun d h1 h2 => begins_tch hlb h1 h2) hbg)
    have hWk : linksOf W k = ownOf W k := by simp [linksOf, ownOf]
    obtain ⟨ob, oo, pa, pc, rfl, hoc, q0, hs⟩ := hq.get hxs hkn
    have hwl : (linksOf W k).length ≤ 20000 := by
      have h1 : k < W.length := by omega
      rw [show linksOf W k = W[k] by simp [linksOf, h1]]
      exact hWW _ (List.getElem_mem h1)
    have hlk := hll k hkn
    have HC := Lib.hid (rOf_any _ _ w hs hwl)
    clear hp hq ih ho hll hlb hWW hbg hout ham hk hs
    go_enter Tryz.func10, Tryz.ntmps10
    go_wp2_with fail
    refine HC.out.mono ?_
    rintro e w1 ⟨v1, rfl, o1, m1⟩
    have HST := Lib.hid (show ∃ row, OwnS w1 w.heap.size v1 row ∧ IsSet (Part L W k ((linksOf L k).take 0)) row from ⟨_, o1, set_own (by rw [← hWk]; exact twoS_of _)⟩)
    have HM1 := Lib.hid m1
    clear HC o1 m1 q0 hWk
    go_wp2_with fail
    go_loopw [7, 8] (fun s7 s8 wr => ∃ j : Nat, j ≤ (linksOf L k).length ∧ s8 = .int .i64 j ∧ Hid (∃ row, OwnS wr w.heap.size s7 row ∧ IsSet (Part L W k ((linksOf L k).take j)) row) ∧ Hid (Mod [] w wr)) (fun _ s8 _ => (linksOf L k).length - (intOf s8).toNat)
    case atStart => exact ⟨0, by omega, rfl, HST, HM1⟩
    case round =>
      clear HST HM1
      obtain ⟨j, hj, rfl, hS, hM⟩ := hrel
      obtain ⟨lb, lo, la, lc, rfl, hlc, l0, hl⟩ := (HP.out.kept0 hM.out).get hus hkn
      by_cases hlt : j < (linksOf L k).length
      · obtain ⟨xb, xo, rfl, hxc, x0, x1⟩ := hl.get2 hlt
        have HX := Lib.hid (HIH.out _ (List.getElem_mem hlt) wr (HP.out.kept0 hM.out) (HQ.out.kept0 hM.out))
        have HX2 := Lib.hid (HLB.out k _ (List.getElem_mem hlt))
        have HT := Lib.hid (show (linksOf L k).take (j + 1) = (linksOf L k).take j ++ [(linksOf L k)[j]] from List.take_succ_eq_append_getElem hlt)
        generalize (linksOf L k)[j] = x at x0 x1 HX HX2 HT
        obtain ⟨t1, x2⟩ := x
        dsimp only at x0 x1 HX HX2
        clear hl
        go_wp2_with fail
        refine HX.out.mono ?_
        rintro e w2 ⟨v2, row2, rfl, o2, m2, i2⟩
        have l2 := m2.cellD l0
        have x02 := m2.cellD x0
        have x12 := m2.cellD x1
        have HCW := Lib.hid (rWide_any v2 row2 x2 w2 o2.row (Nat.le_trans (HLT.out _ _ i2) (by omega)))
        have HR2 := Lib.hid (HLT.out _ _ i2)
        have HI2 := Lib.hid i2
        have HM2 := Lib.hid m2
        clear HX o2 i2 m2 l0 x0 x1
        go_wp2_with fail
        refine HCW.out.mono ?_
        rintro e w3 ⟨v3, rfl, o3, m3⟩
        obtain ⟨row1, o1, i1⟩ := hS.out
        have hm := HM2.out.trans m3
        have hl3 : (twoS (wideL (twoS row2 [] 0) (clampK x2)) [] 0).length ≤ 20000 := by
          have h1 := twoS_len row2
          have h2 := twoS_len (wideL (twoS row2 [] 0) (clampK x2))
          have h3 : (wideL (twoS row2 [] 0) (clampK x2)).length = (twoS row2 [] 0).length := by simp [wideL]
          have := HR2.out
          omega
        have HCT := Lib.hid (rTwo_any u7 v3 row1 _ 0 w3 (o1.row.kept0 hm) o3.row (Nat.le_trans (HLN.out _ _ i1) (by omega)) hl3)
        have HI1 := Lib.hid i1
        have HM3 := Lib.hid (hM.out.trans hm)
        clear HCW o1 i1 o3 m3 hm hl3
        go_wp2_with fail
        refine HCT.out.mono ?_
        rintro e w4 ⟨v4, rfl, o4, m4⟩
        have HM4 := Lib.hid (HM3.out.trans m4)
        have HO4 := Lib.hid (o4.mono HM3.out.size)
        have HI4 := Lib.hid (show IsSet (Part L W k ((linksOf L k).take (j + 1))) _ from by
          rw [HT.out]
          exact set_link (x := (t1, x2)) HI1.out HI2.out (twoS_of row2) (twoS_of _) rfl HX2.out (twoS_is row1 _ 0))
        clear HCT o4 m4
        go_wp2_with fail
        go_roundw
        case rel => exact ⟨j + 1, by omega, by go_num, Lib.hid ⟨_, HO4.out, HI4.out⟩, HM4⟩
        case measure => simp [intOf]; omega
      · have HE := Lib.hid (show (linksOf L k).take j = linksOf L k by rw [List.take_of_length_le (by omega)])
        go_wp2_with fail
        go_ret
        obtain ⟨row, o2, i2⟩ := hS.out
        rw [HE.out] at i2
        exact ⟨_, row, rfl, o2, hM.out, i2.congr fun d => by
          have := part_all (L := L) (W := W) (f := (k : Int)) (d := d)
          rwa [Int.toNat_natCast] at this⟩
end Go.Proofs.YtefaihockgebeaaGreat
namespace Go.Proofs.YtefaihockgebeaaGreat
open Go.RowKit Go.ChangeMaps Go.Deep
set_option linter.unusedSimpArgs false
set_option linter.unusedVariables false
set_option maxRecDepth 20000

def tooLong (m : Nat) (L : List (List Sp)) : Bool := L.any fun l => decide (m < l.length)
theorem tooLong_step {m : Nat} {L : List (List Sp)} {i : Nat} (hi : i < L.length) (h : tooLong m (L.take i) = false) (hl : (linksOf L i).length ≤ m) : tooLong m (L.take (i + 1)) = false := by
  rw [List.take_succ_eq_append_getElem hi, tooLong, List.any_append]
  have e : linksOf L i = L[i] := by simp [linksOf, hi]
  rw [e] at hl
  simp only [tooLong] at h
  simp [h]
  omega
theorem tooLong_hit {m : Nat} {L : List (List Sp)} {i : Nat} (hi : i < L.length) (hl : m < (linksOf L i).length) : tooLong m L = true := by
  have e : linksOf L i = L[i] := by simp [linksOf, hi]
  rw [e] at hl
  exact List.any_eq_true.2 ⟨L[i], List.getElem_mem hi, by simpa using hl⟩
def greatW (W : List (List Sp)) : Bool := tooLong 6 W || decide (20 < W.length)
def great22B (L : Lks) (Ws : List (List (List Sp))) : Bool := tooLong 3 L || Ws.any greatW || decide (8 < L.length)
/-- a slice of slices of slices of spans -/
structure PartsAt2 (w : World) (v : Value) (ws : List Value) (Ws : List (List (List Sp))) : Prop where
  row : RowAt encV w v ws
  len : ws.length = Ws.length
  part : ∀ j (h : j < ws.length) (h' : j < Ws.length), ∃ us, PartsAt w ws[j] us Ws[j]
set_option maxHeartbeats 4000000 in
theorem great22_any (v u : Value) (us ws : List Value) (L : Lks) (Ws : List (List (List Sp))) (w : World) (h : PartsAt w v us L) (hu : PartsAt2 w u ws Ws) (hl : L.length ≤ 140737488355328) (hll : ∀ k, k < L.length → (linksOf L k).length ≤ 140737488355328)
    (hW : Ws.length ≤ 100) (hWl : ∀ W ∈ Ws, W.length ≤ 140737488355328 ∧ ∀ l ∈ W, l.length ≤ 140737488355328) :
    Calls Tryz.prog 5 #[v, u] w fun e w' => e = .returned (.bool (great22B L Ws)) ∧ w' = w := by
  have HP := Lib.hid h
  have HU := Lib.hid hu
  have hul := h.len
  have hwl := hu.len
  have HL := Lib.hid hul
  have HW := Lib.hid hwl
  have HLL := Lib.hid hll
  have HWL := Lib.hid hWl
  have hus : us.length ≤ 140737488355328 := by omega
  have hws : ws.length ≤ 100 := by omega
  obtain ⟨a, c, rfl⟩ := h.row.form
  obtain ⟨a2, c2, rfl⟩ := hu.row.form
  clear h hu hll hWl hul hwl hl hW
  go_enter Tryz.func5, Tryz.ntmps5
  go_wp2_with fail
  go_loop [11] (fun s11 => ∃ i : Nat, i ≤ us.length ∧ s11 = .int .i64 i ∧ Hid (tooLong 3 (L.take i) = false)) (fun s11 => us.length - (intOf s11).toNat)
  case atStart => exact ⟨0, by omega, rfl, Lib.hid rfl⟩
  case round =>
    obtain ⟨i, hi, rfl, hN⟩ := hrel
    by_cases hlt : i < us.length
    · obtain ⟨b, o, pa, pc, rfl, hc, q0, hs⟩ := HP.out.get rfl hlt
      have hi2 : i < L.length := by rw [← HL.out]; exact hlt
      have HB := Lib.hid (HLL.out i hi2)
      have HS := Lib.hid (fun h => tooLong_step hi2 hN.out h)
      have HH := Lib.hid (fun h : 3 < (linksOf L i).length => tooLong_hit hi2 h)
      clear hs hi2
      generalize (linksOf L i).length = m at q0 HB HS HH
      have hm := HB.out
      by_cases h3 : 3 < m
      · go_wp2_with fail
        go_ret
        exact ⟨by simp [great22B, HH.out h3], rfl⟩
      · go_wp2_with fail
        go_round
        case rel => exact ⟨i + 1, by omega, by go_num, Lib.hid (HS.out (by omega))⟩
        case measure => simp [intOf]; omega
    · have HN := Lib.hid (show tooLong 3 L = false by rw [← hN.out, List.take_of_length_le (by rw [← HL.out]; omega)])
      clear hN
      go_wp2_with fail
      go_loop [23] (fun s23 => ∃ i : Nat, i ≤ ws.length ∧ s23 = .int .i64 i ∧ Hid ((Ws.take i).any greatW = false)) (fun s23 => ws.length - (intOf s23).toNat)
      case atStart => exact ⟨0, by omega, rfl, Lib.hid rfl⟩
      case round =>
        obtain ⟨p, hp, rfl, hG⟩ := hrel
        by_cases hlt2 : p < ws.length
        · have hp2 : p < Ws.length := by rw [← HW.out]; exact hlt2
          obtain ⟨us2, hP2⟩ := HU.out.part p hlt2 hp2
          obtain ⟨b, o, rfl, hc, hq⟩ := HU.out.row.get encV_len hlt2
          have q0 := hq 0 ws[p] (by omega) rfl
          rw [Nat.mul_one, Nat.add_zero] at q0
          have HB := Lib.hid (HWL.out _ (List.getElem_mem hp2))
          have HT := Lib.hid (show (Ws.take (p + 1)).any greatW = ((Ws.take p).any greatW || greatW Ws[p]) by rw [List.take_succ_eq_append_getElem hp2, List.any_append]; simp)
          have HA := Lib.hid (fun hh : greatW Ws[p] = true => show Ws.any greatW = true from List.any_eq_true.2 ⟨_, List.getElem_mem hp2, hh⟩)
          generalize Ws[p] = W at hP2 HB HT HA
          obtain ⟨a3, c3, e3⟩ := hP2.row.form
          rw [e3] at q0 hP2
          have h2l := hP2.len
          have HP2 := Lib.hid hP2
          have H2L := Lib.hid h2l
          have hu2 : us2.length ≤ 140737488355328 := by rw [h2l]; exact HB.out.1
          clear hP2 h2l hq e3
          go_wp2_with fail
          go_loop [29] (fun s29 => ∃ i : Nat, i ≤ us2.length ∧ s29 = .int .i64 i ∧ Hid (tooLong 6 (W.take i) = false)) (fun s29 => us2.length - (intOf s29).toNat)
          case atStart => exact ⟨0, by omega, rfl, Lib.hid rfl⟩
          case round =>
            obtain ⟨i, hi, rfl, hN2⟩ := hrel
            by_cases hlt3 : i < us2.length
            · obtain ⟨b3, o3, pa, pc, rfl, hc3, q3, hs⟩ := HP2.out.get rfl hlt3
              have hi2 : i < W.length := by rw [← H2L.out]; exact hlt3
              have HBi := Lib.hid (show (linksOf W i).length ≤ 140737488355328 by rw [show linksOf W i = W[i] by simp [linksOf, hi2]]; exact HB.out.2 _ (List.getElem_mem hi2))
              have HS := Lib.hid (fun h => tooLong_step hi2 hN2.out h)
              have HH := Lib.hid (fun h : 6 < (linksOf W i).length => HA.out (by rw [greatW, tooLong_hit hi2 h]; rfl))
              clear hs hi2
              generalize (linksOf W i).length = m at q3 HBi HS HH
              have hm := HBi.out
              by_cases h6 : 6 < m
              · go_wp2_with fail
                go_ret
                exact ⟨by simp [great22B, HH.out h6], rfl⟩
              · go_wp2_with fail
                go_round
                case rel => exact ⟨i + 1, by omega, by go_num, Lib.hid (HS.out (by omega))⟩
                case measure => simp [intOf]; omega
            · have HN2 := Lib.hid (show tooLong 6 W = false by rw [← hN2.out, List.take_of_length_le (by rw [← H2L.out]; omega)])
              clear hN2
              by_cases h20 : 20 < us2.length
              · have HH := Lib.hid (HA.out (by rw [greatW, decide_eq_true (by rw [← H2L.out]; exact h20), Bool.or_true]))
                go_wp2_with fail
                go_ret
                exact ⟨by simp [great22B, HH.out], rfl⟩
              · have HH := Lib.hid (show (Ws.take (p + 1)).any greatW = false by rw [HT.out, hG.out, greatW, HN2.out, decide_eq_false (by rw [← H2L.out]; exact h20)]; rfl)
                go_wp2_with fail
                go_round
                case rel => exact ⟨p + 1, by omega, by go_num, HH⟩
                case measure => simp [intOf]; omega
        · have HE := Lib.hid (show Ws.any greatW = false by rw [← hG.out, List.take_of_length_le (by rw [← HW.out]; omega)])
          go_wp2_with fail
          go_ret
          refine ⟨?_, rfl⟩
          rw [great22B, HN.out, HE.out, ← HL.out]
          simp
          omega
end Go.Proofs.YtefaihockgebeaaGreat
namespace Go.Proofs.YtefaihockgebeaaGreat
open Go.RowKit Go.ChangeMaps Go.Deep
set_option linter.unusedSimpArgs false
set_option linter.unusedVariables false
set_option maxRecDepth 20000
attribute [local go_sem] Oper.semAt_some

set_option maxHeartbeats 4000000 in
theorem drTouch_arg (base B : Nat) (R : Lks) (out : List Int) (v : Value) (us : List Value) (W : List (List Sp)) (w : World) (h : GraphAt w base B R out) (hp : PartsAt w v us W) (hol : out.length ≤ 1000000) (hWl : W.length ≠ out.length) (hWb : W.length ≤ 1000000) :
    Calls Tryz.prog 8 #[.pointer (some ⟨B, 0, none⟩), v] w fun e w' => e = .returned (.tuple #[.slice none 0 0, .int .i64 2]) ∧ Mod [] w w' := by
  obtain ⟨a, c, rfl⟩ := hp.row.form
  have hul := hp.len
  rw [← hul] at hWl hWb
  obtain ⟨A1, hA1, n1, s1, m1⟩ := alloc_named2 w (.cells #[.slice a us.length c] 23)
  have HG := Lib.hid (h.kept0 m1)
  have HP := Lib.hid (hp.kept0 m1)
  have HN1 := Lib.hid n1
  have HM1 := Lib.hid m1
  have c0 := cell_blk n1 0
  simp only [List.getElem?_toArray, List.getElem?_cons_zero] at c0
  have HC := Lib.hid (fun (u : World) (hu : Mod [] A1 u) => grOrder_any base B R out u (HG.out.kept0 hu) (by omega))
  clear h hp n1 m1 hul
  refine (callsIn_wide (n := 5)).1 ?_
  refine callsIn_of_wp_marks Tryz.func8 rfl trivial ?_ rfl
  simp only [Tryz.ntmps8, List.size_toArray, List.length_cons, List.length_nil, Nat.reduceAdd, Nat.reduceSub, Array.replicate_succ, Array.replicate_zero, List.push_toArray, List.append_toArray, List.nil_append, List.cons_append]
  gi_wp2_with fail
  refine wpIn_wide.2 ?_
  refine wp_plan [([0, 2, 1], 3, [0, 1])] [4, 5] (by kernel_rfl) (by kernel_rfl) ?_
  simp only [wpSegs, opsOf, List.map_cons, List.map_nil, opN, List.getD_cons_zero, List.getD_cons_succ]
  go_wp2_with fail
  refine ⟨by first | trivial | rfl, ?_⟩
  go_wp2_with fail
  refine (HC.out _ (Mod.refl [] A1).drew).mono ?_
  rintro e w1 ⟨v1, rfl, o1, m1⟩
  have hm1 := (Mod.refl [] A1).drew.trans m1
  obtain ⟨a1, c1, rfl⟩ := o1.row.form
  have HO1 := Lib.hid o1
  have HB1 := Lib.hid (hm1.heap HN1.out (by simp))
  have HMa := Lib.hid hm1
  have d0 := cell_blk HB1.out 0
  simp only [List.getElem?_toArray, List.getElem?_cons_zero] at d0
  have hne : ((us.length : Int) != (out.length : Int)) = true := by simp; omega
  clear o1 m1 HC hm1
  go_wp2_with fail
  refine ⟨?ag1, ?_⟩
  case ag1 =>
    intro i hi hw
    simp only [List.mem_cons, List.not_mem_nil, or_false] at hi
    rcases hi with rfl | rfl
    all_goals (simp only [opN, List.getD_cons_zero, List.getD_cons_succ, slotOf]; go_simp)
  go_wp2_with fail
  refine ⟨by first | trivial | rfl, ?_⟩
  go_wp2_with fail
  gi_wp2_with fail
  refine ⟨.tuple #[.slice none 0 0, .int .i64 2], by simp [results, Tryz.results8, go_sem], rfl, HM1.out.trans HMa.out⟩
end Go.Proofs.YtefaihockgebeaaGreat
namespace Go.Proofs.YtefaihockgebeaaGreat
set_option linter.unusedSimpArgs false
set_option linter.unusedVariables false

theorem mayL_links2 {n : Int} {L : Lks} (h : mayL n L = true) : (0 ≤ n ∧ n ≤ 64) ∧ (L.length : Int) = n ∧ ∀ k x, x ∈ linksOf L k → 0 ≤ x.1 ∧ x.1 < n ∧ 0 ≤ x.2 ∧ x.2 ≤ 3660 := by
  unfold mayL at h
  simp only [Bool.and_eq_true, decide_eq_true_eq, List.all_eq_true] at h
  obtain ⟨⟨⟨h1, h2⟩, h3⟩, h4⟩ := h
  refine ⟨⟨h1, h2⟩, h3, fun k x hx => ?_⟩
  by_cases hk : k < L.length
  · rw [show linksOf L k = L[k] by simp [linksOf, hk]] at hx
    have := h4 _ (List.getElem_mem hk) x hx
    simp [isLinkB] at this
    omega
  · rw [show linksOf L k = [] by simp [linksOf, Nat.le_of_not_lt hk]] at hx
    cases hx
/-- what Touch wants to know of Of's graph -/
theorem of_graph {n : Nat} {L R : Lks} (h1 : mayL n L = true) (h2 : n ≤ (orderR L n).length) (hr : R.length = L.length) (ho : ∀ j, j < L.length → IsOnce (linksOf L j) (linksOf R j)) :
    n ≤ 64 ∧ R.length = n ∧ L.length = n ∧ Ordered R n (orderR L n) ∧ Ordered L n (orderR L n) ∧ (orderR L n).length = n ∧ (∀ k x, x ∈ linksOf R k → 0 ≤ x.2) ∧ (∀ k x, x ∈ linksOf L k → 0 ≤ x.2) ∧ ∀ (W : List (List Sp)) (f d : Int), Tch R W f d ↔ Tch L W f d := by
  obtain ⟨⟨_, h3⟩, h4, h5⟩ := mayL_links2 h1
  have hRL : ∀ k x, x ∈ linksOf R k → x ∈ linksOf L k := fun k x hx => by
    by_cases hk : k < L.length
    · exact (((ho k hk).mem x).1 hx).1
    · rw [show linksOf R k = [] by simp [linksOf, hr, Nat.le_of_not_lt hk]] at hx
      cases hx
  have hoo := orderR_ordered L n
  refine ⟨by omega, by omega, by omega, ⟨hoo.nodup, hoo.below, fun a i b e x hx => hoo.links a i b e x (hRL _ x hx)⟩, hoo, by have := orderR_length L n; omega, fun k x hx => (h5 k x (hRL k x hx)).2.2.1, fun k x hx => (h5 k x hx).2.2.1, fun W f d => ⟨fun h => tch_lift (fun k x hx => ⟨x, hRL k x hx, rfl, Int.le_refl _⟩) h, fun h => tch_lift (fun k x hx => ?_) h⟩⟩
  by_cases hk : k < L.length
  · exact far_link (ho k hk) hx
  · rw [show linksOf L k = [] by simp [linksOf, Nat.le_of_not_lt hk]] at hx
    cases hx
end Go.Proofs.YtefaihockgebeaaGreat
namespace Go.Proofs.YtefaihockgebeaaGreat
open Go.RowKit Go.ChangeMaps Go.Deep
set_option linter.unusedSimpArgs false
set_option linter.unusedVariables false
set_option maxRecDepth 20000

theorem row_lit2 {α : Type} {enc : α → List Value} {E : TypeId} (w : World) (l : List α) (c : Array Value) (n b : Nat) (hc : c = (flat enc l).toArray) (hn : n = l.length) (hb : b = w.heap.size) : RowAt enc (w.alloc (.cells c E)) (.slice (some ⟨b, 0, none⟩) n n) l := by
  subst hb; subst hc; subst hn
  exact .at_ _ 0 _ l (Nat.le_refl _) (fun j u hu => by
    rw [Nat.zero_add, cell_blk (heap_alloc_new w _)]
    simpa using hu)
theorem three {P : Nat → Prop} (h0 : P 0) (h1 : P 1) (h2 : P 2) : ∀ j, j < 3 → P j := fun j hj => by
  rcases (show j = 0 ∨ j = 1 ∨ j = 2 by omega) with rfl | rfl | rfl <;> assumption
theorem once_len {l R : List Sp} (h : IsOnce l R) : R.length ≤ l.length := by
  have hn : (R.map (·.1)).Nodup := List.pairwise_map.2 (h.up.imp fun hxy e => by omega)
  have := nodup_length (m := l.map (·.1)) hn fun z hz => by
    obtain ⟨x, hx, rfl⟩ := List.mem_map.1 hz
    exact List.mem_map.2 ⟨x, ((h.mem x).1 hx).1, rfl⟩
  simpa using this
def kL : Lks := [[], [(0, 3)], [(1, 0)]]
def kW : List (List Sp) := [[(10, 12)], [], []]
theorem k0 (d : Int) : Tch kL kW 0 d ↔ 10 ≤ d ∧ d < 12 := by
  rw [tch_iff, show ownOf kW 0 = [(10, 12)] from rfl, show linksOf kL (Int.toNat 0) = [] from rfl, in_one]
  simp
  omega
theorem k1 (d : Int) : Tch kL kW 1 d ↔ 10 ≤ d ∧ d < 15 := by
  rw [tch_iff, show ownOf kW 1 = [] from rfl, show linksOf kL (Int.toNat 1) = [(0, 3)] from rfl]
  constructor
  · rintro (⟨_, _, h⟩ | ⟨x, hx, e, h1, h2, h3, h4⟩)
    · simp [In] at h
    · simp at hx
      subst hx
      have := (k0 e).1 h1
      simp at h3
      omega
  · intro h
    refine .inr ⟨(0, 3), by simp, if d < 12 then d else 11, ?_, ?_, ?_, by omega⟩
    · rw [k0]; split <;> omega
    · split <;> omega
    · simp; split <;> omega
theorem k2 (d : Int) : Tch kL kW 2 d ↔ 10 ≤ d ∧ d < 15 := by
  rw [tch_iff, show ownOf kW 2 = [] from rfl, show linksOf kL (Int.toNat 2) = [(1, 0)] from rfl]
  constructor
  · rintro (⟨_, _, h⟩ | ⟨x, hx, e, h1, h2, h3, h4⟩)
    · simp [In] at h
    · simp at hx
      subst hx
      have := (k1 e).1 h1
      simp at h3
      omega
  · intro h
    exact .inr ⟨(1, 0), by simp, d, by rw [k1]; omega, by omega, by simp, by omega⟩
theorem set_one {P : Int → Prop} {a b : Int} (ha : 0 < a) (hab : a < b) (hb : b ≤ 3652060) (h : ∀ d, P d ↔ a ≤ d ∧ d < b) : IsSet P [(a, b)] := ⟨by simp [Right]; omega, fun d => by rw [in_one, h]⟩
set_option maxHeartbeats 4000000 in
theorem known22_any (w : World) : Calls Tryz.prog 6 #[] w fun e w' => e = .returned (.bool true) ∧ Mod [] w w' := by
  obtain ⟨A1, hA1, n1, s1, m1⟩ := alloc_named2 w (.cells #[.int .i64 0, .int .i64 3] 41)
  obtain ⟨A2, hA2, n2, s2, m2⟩ := alloc_named2 A1 (.cells #[.int .i64 1, .int .i64 0] 41)
  obtain ⟨A3, hA3, n3, s3, m3⟩ := alloc_named2 A2 (.cells #[.slice none 0 0, .slice (some ⟨w.heap.size, 0, none⟩) 1 1, .slice (some ⟨w.heap.size + 1, 0, none⟩) 1 1] 39)
  have r1 : SpansAt A1 (.slice (some ⟨w.heap.size, 0, none⟩) 1 1) [(0, 3)] := by rw [← hA1]; exact row_lit2 (enc := encS) (E := 41) w [(0, 3)] _ 1 _ rfl rfl rfl
  have r2 : SpansAt A2 (.slice (some ⟨w.heap.size + 1, 0, none⟩) 1 1) [(1, 0)] := by rw [← hA2]; exact row_lit2 (enc := encS) (E := 41) A1 [(1, 0)] _ 1 _ rfl rfl s1.symm
  have r3 : RowAt encV A3 (.slice (some ⟨w.heap.size + 1 + 1, 0, none⟩) 3 3) [.slice none 0 0, .slice (some ⟨w.heap.size, 0, none⟩) 1 1, .slice (some ⟨w.heap.size + 1, 0, none⟩) 1 1] := by rw [← hA3]; exact row_lit2 (enc := encV) (E := 39) A2 _ _ 3 _ rfl rfl (by rw [s2, s1])
  have HP : Hid (PartsAt A3 (.slice (some ⟨w.heap.size + 1 + 1, 0, none⟩) 3 3) [.slice none 0 0, .slice (some ⟨w.heap.size, 0, none⟩) 1 1, .slice (some ⟨w.heap.size + 1, 0, none⟩) 1 1] [[], [(0, 3)], [(1, 0)]]) := Lib.hid ⟨r3, rfl, fun j h1 h2 => by
    rcases (show j = 0 ∨ j = 1 ∨ j = 2 by simp at h1; omega) with rfl | rfl | rfl
    · exact .nil _ _
    · exact r1.kept0 (m2.trans m3)
    · exact r2.kept0 m3⟩
  have HC1 := Lib.hid (grOf_any 3 _ _ _ A3 HP.out (by simp) (fun k hk => by
    rcases (show k = 0 ∨ k = 1 ∨ k = 2 by simp at hk; omega) with rfl | rfl | rfl <;> simp [linksOf]))
  have HM := Lib.hid (m1.trans (m2.trans m3))
  rw [s1] at s2
  rw [s2] at s3
  clear n1 n2 n3 m1 m2 m3 r1 r2 r3 HP
  go_enter Tryz.func6, Tryz.ntmps6
  go_wp2_with fail
  refine HC1.out.mono ?_
  intro e w1 hp
  obtain ⟨mo, h1 | ⟨_, h2, _⟩ | ⟨_, _, B, R, rfl, hg, hr, ho⟩⟩ := hp
  · exact absurd h1.1 (by decide)
  · exact absurd h2 (by decide)
  have e0 : orderR [[], [(0, 3)], [(1, 0)]] (Int.toNat 3) = [0, 1, 2] := by decide
  have hq := of_graph (n := 3) (L := [[], [(0, 3)], [(1, 0)]]) (R := R) (by decide) (by decide) hr ho
  rw [show orderR [[], [(0, 3)], [(1, 0)]] 3 = [0, 1, 2] from e0] at hq
  rw [e0] at hg
  have HG := Lib.hid hg
  have HQ := Lib.hid hq
  have HR := Lib.hid hr
  have HOO := Lib.hid ho
  have HM1 := Lib.hid (HM.out.trans mo)
  clear hg hq hr ho mo HC1 HM hA1 hA2 hA3 s1 s2 s3 e0
  obtain ⟨B1, hB1, q1, t1, k1⟩ := alloc_named2 w1 (.cells #[.int .i64 10, .int .i64 12] 45)
  obtain ⟨B2, hB2, q2, t2, k2⟩ := alloc_named2 B1 (.cells #[.slice (some ⟨w1.heap.size, 0, none⟩) 1 1, .slice none 0 0, .slice none 0 0] 30)
  have r1 : SpansAt B1 (.slice (some ⟨w1.heap.size, 0, none⟩) 1 1) [(10, 12)] := by rw [← hB1]; exact row_lit2 (enc := encS) (E := 45) w1 [(10, 12)] _ 1 _ rfl rfl rfl
  have r3 : RowAt encV B2 (.slice (some ⟨w1.heap.size + 1, 0, none⟩) 3 3) [.slice (some ⟨w1.heap.size, 0, none⟩) 1 1, .slice none 0 0, .slice none 0 0] := by rw [← hB2]; exact row_lit2 (enc := encV) (E := 30) B1 _ _ 3 _ rfl rfl t1.symm
  have HP2 : Hid (PartsAt B2 (.slice (some ⟨w1.heap.size + 1, 0, none⟩) 3 3) [.slice (some ⟨w1.heap.size, 0, none⟩) 1 1, .slice none 0 0, .slice none 0 0] [[(10, 12)], [], []]) := Lib.hid ⟨r3, rfl, fun j h1 h2 => by
    rcases (show j = 0 ∨ j = 1 ∨ j = 2 by simp at h1; omega) with rfl | rfl | rfl
    · exact r1.kept0 k2
    · exact .nil _ _
    · exact .nil _ _⟩
  have hlnk : ∀ k, k < 3 → (linksOf R k).length ≤ 1000000 := fun k hk => Nat.le_trans (once_len (HOO.out k (by simpa using hk))) (by
    rcases (show k = 0 ∨ k = 1 ∨ k = 2 by omega) with rfl | rfl | rfl <;> simp [linksOf])
  have HC2 := Lib.hid (drTouch_any _ B 3 R [0, 1, 2] _ _ _ B2 (HG.out.kept0 (k1.trans k2)) HP2.out HQ.out.1 HQ.out.2.1 HQ.out.2.2.2.1 rfl rfl hlnk HQ.out.2.2.2.2.2.2.1 (by intro l hl; simp at hl; rcases hl with rfl | rfl <;> simp) (by decide))
  have HM2 := Lib.hid (HM1.out.trans (k1.trans k2))
  rw [t1] at t2
  clear q1 q2 k1 k2 r1 r3 HP2 hlnk HG HM1
  go_wp2_with fail
  refine HC2.out.mono ?_
  rintro e w2 ⟨m3, v', vs, rows, rfl, hp, hrl, hset⟩
  have hT : ∀ (k : Nat) (c : List Sp), k < 3 → IsSet (Tch kL kW k) c → linksOf rows k = c := fun k c hk hc => (hset k hk).one hc fun d => HQ.out.2.2.2.2.2.2.2.2 _ _ d
  have t0 := hT 0 [(10, 12)] (by omega) (set_one (by omega) (by omega) (by omega) k0)
  have t1 := hT 1 [(10, 15)] (by omega) (set_one (by omega) (by omega) (by omega) k1)
  have t2 := hT 2 [(10, 15)] (by omega) (set_one (by omega) (by omega) (by omega) k2)
  have hrows : rows = [[(10, 12)], [(10, 15)], [(10, 15)]] := by
    match rows, hrl with
    | [a, b, c], _ =>
      simp [linksOf] at t0 t1 t2
      rw [t0, t1, t2]
  subst hrows
  have HPP := Lib.hid hp
  obtain ⟨ra, rc, rfl⟩ := hp.row.form
  have hvl : vs.length = 3 := hp.len
  rw [hvl] at HPP ⊢
  have HM3 := Lib.hid (HM2.out.trans m3)
  clear HC2 hset hT t0 t1 t2 hp hrl m3 HM2
  go_wp2_with fail
  have hp0 := HPP.out.get hvl (i := 0) (by omega)
  obtain ⟨rb, ro, pa0, pc0, rfl, hrc, z0, hs0⟩ := hp0
  obtain ⟨_, _, pa1, pc1, e1, _, z1, hs1⟩ := HPP.out.get hvl (i := 1) (by omega)
  obtain ⟨_, _, pa2, pc2, e2, _, z2, hs2⟩ := HPP.out.get hvl (i := 2) (by omega)
  cases e1
  cases e2
  simp only [linksOf, List.getD_cons_zero, List.getD_cons_succ, List.length_cons, List.length_nil, Nat.add_zero, Nat.zero_add] at z0 z1 z2 hs0 hs1 hs2
  have hd2 := (Mod.refl [] w2).drew
  obtain ⟨C1, hC1, _, l1, g1⟩ := alloc_named2 w2.drew (.cells #[.int .i64 10, .int .i64 12] 45)
  have rl1 : SpansAt C1 (.slice (some ⟨w2.heap.size, 0, none⟩) 1 1) [(10, 12)] := by rw [← hC1]; exact row_lit2 (enc := encS) (E := 45) w2.drew [(10, 12)] _ 1 _ rfl rfl (by simp)
  have HS1 := Lib.hid (rSame_any _ _ [(10, 12)] [(10, 12)] C1 (hs0.kept0 (hd2.trans g1)) rl1 (by simp) (by simp))
  have HMC1 := Lib.hid (hd2.trans g1)
  have z0c := HMC1.out.cellD z0
  clear rl1 hd2 g1
  refine wp_plan [([0, 1, 2, 3, 4, 5, 6, 7, 8, 9, 10, 11, 12, 13, 14], 15, [13, 14]), ([], 16, [13, 14]), ([], 17, []), ([18, 19, 20, 21, 22], 23, [21, 22]), ([], 24, [21, 22]), ([], 25, []), ([26, 27, 28, 31, 29, 32, 30, 33], 34, [])] [35, 36] (by kernel_rfl) (by kernel_rfl) ?_
  simp only [wpSegs, opsOf, List.map_cons, List.map_nil, opN, List.getD_cons_zero, List.getD_cons_succ]
  go_wp2_with fail
  refine ⟨?a15, ?_⟩
  case a15 =>
    intro i hi hw
    simp only [List.mem_cons, List.not_mem_nil, or_false] at hi
    rcases hi with rfl | rfl
    all_goals (simp only [opN, List.getD_cons_zero, List.getD_cons_succ, slotOf]; go_simp)
  go_wp2_with fail
  refine ⟨by first | trivial | rfl, ?_⟩
  go_wp2_with fail
  refine ⟨?a16, ?_⟩
  case a16 =>
    intro i hi hw
    simp only [List.mem_cons, List.not_mem_nil, or_false] at hi
    rcases hi with rfl | rfl
    all_goals (simp only [opN, List.getD_cons_zero, List.getD_cons_succ, slotOf]; go_simp)
  go_wp2_with fail
  refine ⟨by first | trivial | rfl, ?_⟩
  go_wp2_with fail
  refine HS1.out.mono ?_
  rintro e w3 ⟨rfl, g3⟩
  have hm3 := HMC1.out.trans g3
  have z1b := hm3.cellD z1
  have z2b := hm3.cellD z2
  obtain ⟨C2, hC2, _, l2, g2⟩ := alloc_named2 w3 (.cells #[.int .i64 10, .int .i64 15] 45)
  have rl2 : SpansAt C2 (.slice (some ⟨w3.heap.size, 0, none⟩) 1 1) [(10, 15)] := by rw [← hC2]; exact row_lit2 (enc := encS) (E := 45) w3 [(10, 15)] _ 1 _ rfl rfl rfl
  have HS2 := Lib.hid (rSame_any _ _ [(10, 15)] [(10, 15)] C2 (hs1.kept0 (hm3.trans g2)) rl2 (by simp) (by simp))
  have HMC2 := Lib.hid (hm3.trans g2)
  have z1c := HMC2.out.cellD z1
  clear HS1 g3 hm3 rl2 g2
  go_wp2_with fail
  refine ⟨again_nil, ?_⟩
  go_wp2_with fail
  refine ⟨by first | trivial | rfl, ?_⟩
  go_wp2_with fail
  refine ⟨?b23, ?_⟩
  case b23 =>
    intro i hi hw
    simp only [List.mem_cons, List.not_mem_nil, or_false] at hi
    rcases hi with rfl | rfl
    all_goals (simp only [opN, List.getD_cons_zero, List.getD_cons_succ, slotOf]; go_simp)
  go_wp2_with fail
  refine ⟨by first | trivial | rfl, ?_⟩
  go_wp2_with fail
  refine ⟨?b24, ?_⟩
  case b24 =>
    intro i hi hw
    simp only [List.mem_cons, List.not_mem_nil, or_false] at hi
    rcases hi with rfl | rfl
    all_goals (simp only [opN, List.getD_cons_zero, List.getD_cons_succ, slotOf]; go_simp)
  go_wp2_with fail
  refine ⟨by first | trivial | rfl, ?_⟩
  go_wp2_with fail
  refine HS2.out.mono ?_
  rintro e w4 ⟨rfl, g4⟩
  have hm4 := HMC2.out.trans g4
  have z1d := hm4.cellD z1
  have z2d := hm4.cellD z2
  have HS3 := Lib.hid (rSame_any _ _ [(10, 15)] [(10, 15)] w4 (hs2.kept0 hm4) (hs1.kept0 hm4) (by simp) (by simp))
  have HM4 := Lib.hid (HM3.out.trans hm4)
  clear HS2 g4 hm4
  go_wp2_with fail
  refine ⟨again_nil, ?_⟩
  go_wp2_with fail
  refine ⟨by first | trivial | rfl, ?_⟩
  go_wp2_with fail
  refine HS3.out.mono ?_
  rintro e w5 ⟨rfl, g5⟩
  have HM5 := Lib.hid (HM4.out.trans g5)
  clear HS3 g5
  go_wp2_with fail
  refine ⟨again_nil, ?_⟩
  go_wp2_with fail
  refine ⟨by first | trivial | rfl, ?_⟩
  go_wp2_with fail
  go_ret
  exact ⟨rfl, HM5.out⟩
end Go.Proofs.YtefaihockgebeaaGreat
namespace Go.Proofs.YtefaihockgebeaaGreat
open Go.RowKit Go.ChangeMaps Go.Deep
set_option linter.unusedSimpArgs false
set_option linter.unusedVariables false
set_option maxRecDepth 20000

theorem great22_small {L : Lks} {Ws : List (List (List Sp))} (h : great22B L Ws = false) : L.length ≤ 8 ∧ (∀ k, (linksOf L k).length ≤ 3) ∧ ∀ W ∈ Ws, W.length ≤ 20 ∧ ∀ l ∈ W, l.length ≤ 6 := by
  simp only [great22B, greatW, tooLong, Bool.or_eq_false_iff, decide_eq_false_iff_not, List.any_eq_false, decide_eq_true_eq, Bool.or_eq_true, not_or] at h
  obtain ⟨⟨h1, h2⟩, h4⟩ := h
  refine ⟨by omega, fun k => ?_, fun W hW => ⟨by have := (h2 W hW).2; omega, fun l hl => ?_⟩⟩
  · by_cases hk : k < L.length
    · rw [show linksOf L k = L[k] by simp [linksOf, hk]]
      have := h1 _ (List.getElem_mem hk)
      omega
    · rw [show linksOf L k = [] by simp [linksOf, Nat.le_of_not_lt hk]]
      simp
  · have h3 := (h2 W hW).1
    simp only [List.any_eq_true, decide_eq_true_eq, not_exists, not_and] at h3
    have := h3 l hl
    omega
theorem elemSpans : ElemOk Tryz.prog 23 30 1 24 := .mk' Tryz.underlying23 (by omega) (by kernel_rfl)
/-- rows of spans of the call's own -/
structure OwnSs (w : World) (base : Nat) (v : Value) (vs : List Value) (R : List (List Sp)) : Prop where
  row : OwnR encV 1 30 w base v vs
  len : vs.length = R.length
  part : ∀ j (h : j < vs.length), OwnS w base vs[j] (linksOf R j)
theorem OwnSs.nil (w : World) (base : Nat) : OwnSs w base (.slice none 0 0) [] [] := ⟨OwnR.nil_ _ _, rfl, fun j h => by simp at h⟩
theorem OwnSs.kept0 {w w' : World} {base : Nat} {v : Value} {vs : List Value} {R : List (List Sp)} (h : OwnSs w base v vs R) (hm : Mod [] w w') : OwnSs w' base v vs R := ⟨h.row.kept0 hm, h.len, fun j a => (h.part j a).kept0 hm⟩
theorem OwnSs.parts {w : World} {base : Nat} {v : Value} {vs : List Value} {R : List (List Sp)} (h : OwnSs w base v vs R) : PartsAt w v vs R :=
  ⟨h.row.row, h.len, fun j a b => by have := (h.part j a).row; rwa [show linksOf R j = R[j] by simp [linksOf, b]] at this⟩
theorem OwnSs.snoc {w w2 : World} {base : Nat} {v v' x : Value} {vs : List Value} {R : List (List Sp)} {l : List Sp} (h : OwnSs w base v vs R) (hx : OwnS w base x l) (ho : OwnR encV 1 30 w2 base v' (vs ++ [x])) (hg : Grew w v w2 v') : OwnSs w2 base v' (vs ++ [x]) (R ++ [l]) := by
  have hne : ∀ {u : Value} {m : List Sp}, OwnS w base u m → ∀ b, u.ownBlock = some b → b ∉ blk v := fun {u m} hu b hb hm => by
    rcases h.row.2 with ⟨rfl, _⟩ | ⟨g, cap, cur, rfl, _, hg2, _⟩
    · simp [blk, Value.ownBlock] at hm
    · have e : g = b := by simpa [blk, Value.ownBlock, eq_comm] using hm
      subst e
      exact hu.typed hg2 (by decide) hb
  refine ⟨ho, by simp [h.len], fun j hj => ?_⟩
  by_cases e : j < vs.length
  · have h1 := h.part j e
    rw [List.getElem_append_left e, show linksOf (R ++ [l]) j = linksOf R j by simp [linksOf, List.getElem?_append_left (show j < R.length by rw [← h.len]; exact e)]]
    exact h1.kept hg.mod (hne h1)
  · have e2 : j = vs.length := by simp at hj; omega
    subst e2
    rw [List.getElem_append_right (Nat.le_refl _), show linksOf (R ++ [l]) vs.length = l by rw [h.len]; simp [linksOf]]
    simp only [Nat.sub_self, List.getElem_singleton]
    exact hx.kept hg.mod (hne hx)
/-- append(in, append([]Span{}, own[i]...)) -/
theorem OwnSs.taken {wr : World} {base i : Nat} {v : Value} {vs : List Value} {W : List (List Sp)} {pa : Option Addr} {pc : Nat} (h : OwnSs wr base v vs (W.take i)) (hb : base ≤ wr.heap.size) (hi : i < W.length) (hi2 : i ≤ 1000000) (hs : SpansAt wr (.slice pa (linksOf W i).length pc) (linksOf W i)) (hl : (linksOf W i).length ≤ 1000000) :
    ∃ a8 c8 w8 a9 c9 w9, (Builtin.append_ #[30, 30] 30 #[.slice (some ⟨wr.heap.size, 0, none⟩) 0 0, .slice pa (linksOf W i).length pc]).run Tryz.prog (wr.alloc (.cells #[] 45)) = .ok (.slice a8 (linksOf W i).length c8) w8 ∧
      (Builtin.append_ #[23, 23] 23 #[v, .slice (some ⟨w8.heap.size, 0, none⟩) 1 1]).run Tryz.prog (w8.alloc (.cells #[.slice a8 (linksOf W i).length c8] 30)) = .ok (.slice a9 (vs.length + 1) c9) w9 ∧
      OwnSs w9 base (.slice a9 (vs.length + 1) c9) (vs ++ [.slice a8 (linksOf W i).length c8]) (W.take (i + 1)) ∧ ∀ w0, w0.heap.size ≤ base → Mod [] w0 wr → Mod [] w0 w9 := by
  have hm7 := (Mod.refl [] wr).alloc (.cells #[] 45)
  obtain ⟨v8, w8, k1, k2, k3⟩ := own_append elemSpan encS_len (OwnR.fresh (enc := encS) (k := 2) (E := 45) wr wr.heap.size (Nat.le_refl _)) (by simp) (ty := 30) ((hs.kept0 hm7).src encS_len encS_one Tryz.underlying30) (by simp; omega) (by omega)
  have hM8 := k3.intoNil (OwnR.fresh (enc := encS) (k := 2) (E := 45) wr wr.heap.size (Nat.le_refl _)) (Nat.le_refl _) hm7
  rw [List.nil_append] at k2
  obtain ⟨a8, c8, rfl⟩ := k2.row.form
  have h8 := h.kept0 hM8
  have hvl : vs.length = i := by rw [h.len, List.length_take]; omega
  obtain ⟨v9, w9, g1, g2, g3⟩ := own_append1x elemSpans encV_len h8.row (by have := hM8.size; omega) (ty := 23) (.slice a8 (linksOf W i).length c8) oneCell_slice (by omega) (by omega)
  obtain ⟨a9, c9, e9⟩ := g2.row.form
  rw [List.length_append, List.length_singleton] at e9
  subst e9
  refine ⟨a8, c8, w8, a9, c9, w9, k1, g1, ?_, fun w0 h0 hm => g3.intoNil h8.row h0 (hm.trans hM8)⟩
  rw [List.take_succ_eq_append_getElem hi, show W[i] = linksOf W i by simp [linksOf, hi]]
  exact h8.snoc (k2.mono hb) g2 g3
end Go.Proofs.YtefaihockgebeaaGreat
namespace Go.Proofs.YtefaihockgebeaaGreat
open Go.RowKit Go.ChangeMaps Go.Deep
set_option linter.unusedSimpArgs false
set_option linter.unusedVariables false
set_option maxRecDepth 20000

theorem tch_mono {L : Lks} {W V : List (List Sp)} (h : ∀ (f d : Int), In (ownOf W f) d → In (ownOf V f) d) {f d : Int} (t : Tch L W f d) : Tch L V f d := by
  induction t with
  | own h1 h2 k => exact .own h1 h2 (h _ _ k)
  | link hx _ h1 h2 h3 ih => exact .link hx ih h1 h2 h3
theorem hasB_iff {l : List Sp} {d : Int} : hasB l d = true ↔ 1 ≤ d ∧ d < 3652060 ∧ In l d := by
  simp only [hasB, Bool.and_eq_true, decide_eq_true_eq, inB_iff]
  constructor
  · rintro ⟨⟨h1, h2⟩, h3⟩; exact ⟨h1, by omega, h3⟩
  · rintro ⟨h1, h2, h3⟩; exact ⟨⟨h1, by omega⟩, h3⟩
theorem own_links (W : List (List Sp)) (k : Nat) : ownOf W (k : Int) = linksOf W k := by simp [ownOf, linksOf]
theorem days_own {R : Lks} {W : List (List Sp)} {k : Nat} {T : List Sp} {d : Int} (h : IsSet (Tch R W k) T) (hd : hasB (linksOf W k) d = true) : hasB T d = true := by
  rw [hasB_iff] at hd ⊢
  exact ⟨hd.1, hd.2.1, (h.2 d).2 (.own hd.1 hd.2.1 (by rw [own_links]; exact hd.2.2))⟩
theorem days_more {R : Lks} {W V : List (List Sp)} {k : Nat} {T U : List Sp} {d : Int} (h : IsSet (Tch R W k) T) (hu : IsSet (Tch R V k) U) (hm : ∀ (f d : Int), In (ownOf W f) d → In (ownOf V f) d) (hd : hasB T d = true) : hasB U d = true := by
  rw [hasB_iff] at hd ⊢
  exact ⟨hd.1, hd.2.1, (hu.2 d).2 (tch_mono hm ((h.2 d).1 hd.2.2))⟩
theorem days_link {R L : Lks} {W : List (List Sp)} {k : Nat} {T t : List Sp} {x : Sp} {d : Int} (hRL : ∀ (f d : Int), Tch R W f d ↔ Tch L W f d) (h : IsSet (Tch R W k) T) (ht : IsSet (Tch R W x.1) t) (hx : x ∈ linksOf L k) (h0 : 0 ≤ x.2) (hd : hasB t d = true) : hasB T d = true ∧ hasB T (min (d + x.2) 3652059) = true := by
  rw [hasB_iff] at hd
  have h1 := (hRL _ _).1 ((ht.2 d).1 hd.2.2)
  constructor
  · rw [hasB_iff]
    exact ⟨hd.1, hd.2.1, (h.2 d).2 ((hRL _ _).2 (.link hx h1 (Int.le_refl _) (by omega) hd.2.1))⟩
  · rw [hasB_iff]
    exact ⟨by omega, by omega, (h.2 _).2 ((hRL _ _).2 (.link hx h1 (by omega) (by omega) (by omega)))⟩
theorem days_none {R L : Lks} {W : List (List Sp)} {k : Nat} {T : List Sp} {rows : List (List Sp)} (hRL : ∀ (f d : Int), Tch R W f d ↔ Tch L W f d) (h : IsSet (Tch R W k) T) (hr : ∀ x ∈ linksOf L k, IsSet (Tch R W x.1) (linksOf rows x.1.toNat))
    (h1 : (twoS (linksOf W k) [] 0).length = 0) (h2 : ∀ x ∈ linksOf L k, (linksOf rows x.1.toNat).length = 0) : T.length = 0 := by
  cases T with
  | nil => rfl
  | cons y T =>
    exfalso
    obtain ⟨y1, y2, _⟩ := h.1
    have ht := (hRL _ _).1 ((h.2 y.1).1 ((in_cons _ _ _).2 (.inl ⟨Int.le_refl _, y2⟩)))
    rcases tch_iff.1 ht with ⟨d1, d2, hi⟩ | ⟨x, hx, e, he, _⟩
    · rw [own_links] at hi
      have := (twoS_of (linksOf W k)).2 y.1
      rw [List.eq_nil_of_length_eq_zero h1] at this
      exact in_nil _ (this.2 ⟨d1, d2, hi⟩)
    · rw [Int.toNat_natCast] at hx
      have := ((hr x hx).2 e).2 ((hRL _ _).2 he)
      rw [List.eq_nil_of_length_eq_zero (h2 x hx)] at this
      exact in_nil _ this
/-- rows put together -/
def bothR (W M : List (List Sp)) (i j : Nat) : List Sp := if j < i then linksOf W j ++ linksOf M j else []
def bothL (W M : List (List Sp)) (n : Nat) : List (List Sp) := (List.range n).map fun j => linksOf W j ++ linksOf M j
theorem bothL_len (W M : List (List Sp)) (n : Nat) : (bothL W M n).length = n := by simp [bothL]
theorem bothL_at (W M : List (List Sp)) (n j : Nat) : linksOf (bothL W M n) j = bothR W M n j := by
  unfold bothL bothR
  simp only [linksOf, List.getD_eq_getElem?_getD, List.getElem?_map]
  split
  · rename_i h; simp [h]
  · rename_i h; simp [List.getElem?_eq_none (show (List.range n).length ≤ j by simp; omega)]
theorem bothL_in {W M : List (List Sp)} {n : Nat} (hn : W.length = n) (f d : Int) (h : In (ownOf W f) d) : In (ownOf (bothL W M n) f) d := by
  have e : ownOf (bothL W M n) f = linksOf (bothL W M n) f.toNat := rfl
  rw [e, bothL_at, bothR]
  have e2 : ownOf W f = linksOf W f.toNat := rfl
  rw [e2] at h
  by_cases hf : f.toNat < n
  · rw [if_pos hf]
    obtain ⟨x, hx, h1⟩ := h
    exact ⟨x, List.mem_append.2 (.inl hx), h1⟩
  · exfalso
    obtain ⟨x, hx, h1⟩ := h
    rw [show linksOf W f.toNat = [] by simp [linksOf, hn, Nat.le_of_not_lt hf]] at hx
    cases hx
theorem bothL_row {W M : List (List Sp)} {n m k : Nat} (hW : ∀ l ∈ W, l.length ≤ m) (hM : ∀ l ∈ M, l.length ≤ k) : ∀ l ∈ bothL W M n, l.length ≤ m + k := by
  intro l hl
  obtain ⟨j, _, rfl⟩ := List.mem_map.1 hl
  have h1 : (linksOf W j).length ≤ m := by
    by_cases h : j < W.length
    · rw [show linksOf W j = W[j] by simp [linksOf, h]]; exact hW _ (List.getElem_mem h)
    · rw [show linksOf W j = [] by simp [linksOf, Nat.le_of_not_lt h]]; simp
  have h2 : (linksOf M j).length ≤ k := by
    by_cases h : j < M.length
    · rw [show linksOf M j = M[j] by simp [linksOf, h]]; exact hM _ (List.getElem_mem h)
    · rw [show linksOf M j = [] by simp [linksOf, Nat.le_of_not_lt h]]; simp
  rw [List.length_append]
  omega
/-- while rows are put together -/
structure BothAt (w wr : World) (rb n : Nat) (W M : List (List Sp)) (i : Nat) (vs : List Value) : Prop where
  mod : Mod [] w wr
  row : OwnR encV 1 30 wr w.heap.size (.slice (some ⟨rb, 0, none⟩) vs.length n) vs
  vl : vs.length = n
  part : ∀ j (h : j < vs.length), SpansAt wr vs[j] (bothR W M i j)
  off : ∀ j (h : j < vs.length), vs[j].ownBlock ≠ some rb
theorem BothAt.start (w : World) (n : Nat) (W M : List (List Sp)) (hn : n ≤ 1000000) : BothAt w (w.alloc (.cells (Array.replicate n (.slice none 0 0)) 30)) w.heap.size n W M 0 (List.replicate n (.slice none 0 0)) :=
  ⟨(Mod.refl [] w).alloc _, own_nones w n w.heap.size (Nat.le_refl _) hn, by simp, fun j hj => by
    rw [List.getElem_replicate, bothR, if_neg (by omega)]
    exact .nil none 0, fun j hj => by rw [List.getElem_replicate]; simp [Value.ownBlock]⟩
section
variable {w wr w9 : World} {rb n i bs : Nat} {W M : List (List Sp)} {vs : List Value} {x : Value}
theorem BothAt.kept0 (h : BothAt w wr rb n W M i vs) (hm : Mod [] wr w9) : BothAt w w9 rb n W M i vs :=
  ⟨h.mod.trans hm, h.row.kept0 hm, h.vl, fun j a => (h.part j a).kept0 hm, h.off⟩
theorem BothAt.rbs (h : BothAt w wr rb n W M i vs) : w.heap.size ≤ rb ∧ rb < wr.heap.size := World.ownsRow.lt h.row rb (by simp [Value.ownBlock])
theorem BothAt.store (h : BothAt w wr rb n W M i vs) (hm : Mod [] wr w9) (ho : OwnS w9 bs x (linksOf W i ++ linksOf M i)) (hb : wr.heap.size ≤ bs) (hi : i < n) : BothAt w (w9.setCell ⟨rb, i, none⟩ x) rb n W M (i + 1) (vs.set i x) := by
  have h7 := h.kept0 hm
  obtain ⟨hr0, hr1⟩ := h.rbs
  have hx : x.ownBlock ≠ some rb := fun e => by have := (World.ownsRow.lt ho rb e).1; omega
  have hmr : Mod [rb] w9 (w9.setCell ⟨rb, i, none⟩ x) := (Mod.refl [rb] w9).setCell (p := ⟨rb, i, none⟩) (by simp) x
  refine ⟨h7.mod.setCellNew (p := ⟨rb, i, none⟩) (by exact hr0) x, ?_, by rw [List.length_set]; exact h.vl, ?_, ?_⟩
  · have := h7.row.set encV_len (i := i) (j := 0) (by rw [h.vl]; exact hi) (by omega) (u := x) (y := x) rfl
    rw [Nat.mul_one, Nat.add_zero] at this
    rwa [List.length_set]
  · intro j hj
    rw [List.length_set] at hj
    rw [List.getElem_set]
    split
    · rename_i e
      subst e
      rw [bothR, if_pos (by omega)]
      exact ho.row.kept hmr (fun b hb => by simp at hb; subst hb; exact hx)
    · rename_i e
      have := (h7.part j hj).kept hmr (fun b hb => by simp at hb; subst hb; exact h7.off j hj)
      rwa [show bothR W M (i + 1) j = bothR W M i j by unfold bothR; split <;> split <;> first | rfl | omega]
  · intro j hj
    rw [List.length_set] at hj
    rw [List.getElem_set]
    split
    · exact hx
    · exact h7.off j hj
theorem BothAt.cell (h : BothAt w wr rb n W M i vs) (hi : i < n) : ∃ u, wr.cell? ⟨rb, i, none⟩ = some u ∧ wr.frozen? ⟨rb, i, none⟩ = false := by
  obtain ⟨h1, h2⟩ := h.row.cell encV_len (i := i) (j := 0) (by rw [h.vl]; exact hi) (by omega) (u := vs[i]'(by rw [h.vl]; exact hi)) rfl
  rw [Nat.mul_one, Nat.add_zero] at h1 h2
  exact ⟨_, h1, h2⟩
theorem BothAt.parts (h : BothAt w wr rb n W M n vs) : PartsAt wr (.slice (some ⟨rb, 0, none⟩) n n) vs (bothL W M n) := by
  refine ⟨by have := h.row.row; rwa [h.vl] at this, by rw [h.vl, bothL_len], fun j h1 h2 => ?_⟩
  have := h.part j h1
  rwa [← bothL_at, show linksOf (bothL W M n) j = (bothL W M n)[j] by simp [linksOf, h2]] at this
end
/-- append(append([]Span{}, own[i]...), more[i]...) -/
theorem both_step {wr : World} {i : Nat} {W M : List (List Sp)} {pa qa : Option Addr} {pc qc : Nat} (hs : SpansAt wr (.slice pa (linksOf W i).length pc) (linksOf W i)) (hm : SpansAt wr (.slice qa (linksOf M i).length qc) (linksOf M i)) (h1 : (linksOf W i).length ≤ 1000000) (h2 : (linksOf M i).length ≤ 1000000) :
    ∃ A a8 c8 w8 a9 c9 w9, wr.drew.alloc (.cells #[] 45) = A ∧ Mod [] wr A ∧ (Builtin.append_ #[30, 30] 30 #[.slice (some ⟨wr.heap.size, 0, none⟩) 0 0, .slice pa (linksOf W i).length pc]).run Tryz.prog A = .ok (.slice a8 (linksOf W i).length c8) w8 ∧ Mod [] wr w8 ∧
      (Builtin.append_ #[30, 30] 30 #[.slice a8 (linksOf W i).length c8, .slice qa (linksOf M i).length qc]).run Tryz.prog w8 = .ok (.slice a9 ((linksOf W i).length + (linksOf M i).length) c9) w9 ∧ OwnS w9 wr.heap.size (.slice a9 ((linksOf W i).length + (linksOf M i).length) c9) (linksOf W i ++ linksOf M i) ∧ Mod [] wr w9 := by
  have hd := (Mod.refl [] wr).drew
  have hm7 := hd.alloc (.cells #[] 45)
  obtain ⟨v8, w8, k1, k2, k3⟩ := own_append elemSpan encS_len (OwnR.fresh (enc := encS) (k := 2) (E := 45) wr.drew wr.heap.size (by simp)) (by simp) (ty := 30) ((hs.kept0 hm7).src encS_len encS_one Tryz.underlying30) (by simp; omega) (by omega)
  have hM8 := k3.intoNil (OwnR.fresh (enc := encS) (k := 2) (E := 45) wr.drew wr.heap.size (by simp)) (Nat.le_refl _) hm7
  rw [List.nil_append] at k2
  obtain ⟨a8, c8, rfl⟩ := k2.row.form
  obtain ⟨v9, w9, g1, g2, g3⟩ := own_append elemSpan encS_len k2 hM8.size (ty := 30) ((hm.kept0 hM8).src encS_len encS_one Tryz.underlying30) (by omega) (by omega)
  obtain ⟨a9, c9, e9⟩ := g2.row.form
  rw [List.length_append] at e9
  subst e9
  exact ⟨_, a8, c8, w8, a9, c9, w9, rfl, hm7, k1, hM8, g1, g2, g3.intoNil k2 (Nat.le_refl _) hM8⟩
end Go.Proofs.YtefaihockgebeaaGreat
namespace Go.Proofs.YtefaihockgebeaaGreat
open Go.RowKit Go.ChangeMaps Go.Deep
set_option linter.unusedSimpArgs false
set_option linter.unusedVariables false
set_option maxRecDepth 20000

theorem great22_three {w : World} {v u y : Value} {us xs zs : List Value} {L : Lks} {W M : List (List Sp)} (h : PartsAt w v us L) (hu : PartsAt w u xs W) (hy : PartsAt w y zs M) (hl : L.length ≤ 140737488355328) (hll : ∀ k, k < L.length → (linksOf L k).length ≤ 140737488355328) (hW : W.length ≤ 140737488355328) (hWl : ∀ l ∈ W, l.length ≤ 140737488355328) (hM : M.length ≤ 140737488355328) (hMl : ∀ l ∈ M, l.length ≤ 140737488355328) :
    ∃ A1, w.alloc (.cells #[u, y] 23) = A1 ∧ Mod [] w A1 ∧ Calls Tryz.prog 5 #[v, .slice (some ⟨w.heap.size, 0, none⟩) 2 2] A1 fun e w' => e = .returned (.bool (great22B L [W, M])) ∧ w' = A1 := by
  obtain ⟨A1, hA1, n1, s1, m1⟩ := alloc_named2 w (.cells #[u, y] 23)
  have r1 : RowAt encV A1 (.slice (some ⟨w.heap.size, 0, none⟩) 2 2) [u, y] := by rw [← hA1]; exact row_lit2 (enc := encV) (E := 23) w [u, y] _ 2 _ rfl rfl rfl
  have HP2 : PartsAt2 A1 (.slice (some ⟨w.heap.size, 0, none⟩) 2 2) [u, y] [W, M] := ⟨r1, rfl, fun j h1 h2 => by
    rcases (show j = 0 ∨ j = 1 by simp at h1; omega) with rfl | rfl
    · exact ⟨xs, hu.kept0 m1⟩
    · exact ⟨zs, hy.kept0 m1⟩⟩
  exact ⟨A1, hA1, m1, great22_any v _ us [u, y] L [W, M] A1 (h.kept0 m1) HP2 hl hll (by simp) (fun X hX => by
    simp at hX
    rcases hX with rfl | rfl
    · exact ⟨hW, hWl⟩
    · exact ⟨hM, hMl⟩)⟩
set_option maxHeartbeats 8000000 in
theorem dirtyDays_known (d : Int) (a a2 a3 : Option Addr) (c c2 c3 n m p : Nat) (us xs zs : List Value) (L : Lks) (W M : List (List Sp)) (w : World) (h : PartsAt w (.slice a n c) us L) (hu : PartsAt w (.slice a2 m c2) xs W) (hz : PartsAt w (.slice a3 p c3) zs M) (hn : us.length = n)
    (hl : L.length ≤ 140737488355328) (hll : ∀ k, k < L.length → (linksOf L k).length ≤ 140737488355328) (hW : W.length ≤ 140737488355328) (hWl : ∀ l ∈ W, l.length ≤ 140737488355328) (hM : M.length ≤ 140737488355328) (hMl : ∀ l ∈ M, l.length ≤ 140737488355328)
    (hno : great22B L [W, M] = true ∨ m ≠ n ∨ p ≠ n ∨ mayL n L = false) :
    Calls Tryz.prog 4 #[.slice a n c, .slice a2 m c2, .slice a3 p c3, .int .i64 d] w fun e w' => e = .returned (.bool true) ∧ Mod [] w w' := by
  obtain ⟨A1, hA1, m1, hg⟩ := great22_three h hu hz hl hll hW hWl hM hMl
  have HM1 := Lib.hid m1
  have HNO := Lib.hid hno
  by_cases hgr : great22B L [W, M] = true
  · have HG := Lib.hid hg
    rw [hgr] at HG
    clear h hu hz hn hl hll hW hWl hM hMl hno hg m1 hgr HNO
    go_enter Tryz.func4, Tryz.ntmps4
    go_wp2_with fail
    refine HG.out.mono ?_
    rintro e w1 ⟨rfl, rfl⟩
    go_wp2_with fail
    refine (known22_any _).mono ?_
    rintro e w2 ⟨rfl, m⟩
    have HMM := Lib.hid (HM1.out.trans m)
    clear m
    go_wp2_with fail
    go_ret
    exact ⟨rfl, HMM.out⟩
  · have hgf : great22B L [W, M] = false := by simpa using hgr
    have hl8 := (great22_small hgf).1
    have HG := Lib.hid hg
    rw [hgf] at HG
    by_cases hmn : m = n
    · subst hmn
      have hne : ((m : Int) != (m : Int)) = false := by simp
      by_cases hpn : p = m
      · subst hpn
        have hmy : mayL p L = false := by
          rcases HNO.out with hh | hh | hh | hh
          · rw [hgf] at hh; cases hh
          · exact absurd rfl hh
          · exact absurd rfl hh
          · exact hh
        have HC := Lib.hid (rMay21_any p _ us L A1 (h.kept0 m1) (by omega) hll)
        rw [hmy] at HC
        clear h hu hz hn hl hll hW hWl hM hMl hno hg m1 hgr HNO hgf hmy hl8
        go_enter Tryz.func4, Tryz.ntmps4
        go_wp2_with fail
        refine HG.out.mono ?_
        rintro e w1 ⟨rfl, rfl⟩
        go_wp2_with fail
        refine HC.out.mono ?_
        rintro e w2 ⟨rfl, m2⟩
        have HM2 := Lib.hid (HM1.out.trans m2)
        clear m2 HC HG
        go_wp2_with fail
        refine (known22_any _).mono ?_
        rintro e w3 ⟨rfl, m⟩
        have HMM := Lib.hid (HM2.out.trans m)
        clear m
        go_wp2_with fail
        go_ret
        exact ⟨rfl, HMM.out⟩
      · have hne2 : ((p : Int) != (m : Int)) = true := by simp; omega
        clear h hu hz hn hl hll hW hWl hM hMl hno hg m1 hgr HNO hgf hpn hl8
        go_enter Tryz.func4, Tryz.ntmps4
        go_wp2_with fail
        refine HG.out.mono ?_
        rintro e w1 ⟨rfl, rfl⟩
        go_wp2_with fail
        refine (known22_any _).mono ?_
        rintro e w2 ⟨rfl, m⟩
        have HMM := Lib.hid (HM1.out.trans m)
        clear m
        go_wp2_with fail
        go_ret
        exact ⟨rfl, HMM.out⟩
    · have hne : ((m : Int) != (n : Int)) = true := by simp; omega
      clear h hu hz hn hl hll hW hWl hM hMl hno hg m1 hgr HNO hgf hmn hl8
      go_enter Tryz.func4, Tryz.ntmps4
      go_wp2_with fail
      refine HG.out.mono ?_
      rintro e w1 ⟨rfl, rfl⟩
      go_wp2_with fail
      refine (known22_any _).mono ?_
      rintro e w2 ⟨rfl, m⟩
      have HMM := Lib.hid (HM1.out.trans m)
      clear m
      go_wp2_with fail
      go_ret
      exact ⟨rfl, HMM.out⟩
end Go.Proofs.YtefaihockgebeaaGreat
namespace Go.Proofs.YtefaihockgebeaaGreat
open Go.RowKit Go.ChangeMaps Go.Deep
set_option linter.unusedSimpArgs false
set_option linter.unusedVariables false
set_option maxRecDepth 20000

/-- what is told where nothing that a field stands on is touched -/
def LedP (L : Lks) (W T : List (List Sp)) (k j : Nat) : Prop := (twoS (linksOf W k) [] 0).length = 0 ∧ ∀ x ∈ (linksOf L k).take j, (linksOf T x.1.toNat).length = 0
set_option maxHeartbeats 16000000 in
theorem dirtyDays_run (d : Int) (a a2 a3 : Option Addr) (c c2 c3 n : Nat) (us xs zs : List Value) (L : Lks) (W M : List (List Sp)) (w : World) (h : PartsAt w (.slice a n c) us L) (hu : PartsAt w (.slice a2 n c2) xs W) (hz : PartsAt w (.slice a3 n c3) zs M) (hn : us.length = n) (hm : xs.length = n) (hk : zs.length = n)
    (b1 : n ≤ 8) (b2 : ∀ k, (linksOf L k).length ≤ 3) (b4 : ∀ l ∈ W, l.length ≤ 6) (b5 : ∀ l ∈ M, l.length ≤ 6) (hgf : great22B L [W, M] = false) (hmy : mayL n L = true) :
    Calls Tryz.prog 4 #[.slice a n c, .slice a2 n c2, .slice a3 n c3, .int .i64 d] w fun e w' => e = .returned (.bool true) ∧ Mod [] w w' := by
  have hLl : L.length = n := by rw [← h.len]; exact hn
  have hWl : W.length = n := by rw [← hu.len]; exact hm
  have hMl : M.length = n := by rw [← hz.len]; exact hk
  obtain ⟨A1, hA1, m1, hg⟩ := great22_three h hu hz (by omega) (fun k _ => by have := b2 k; omega) (by omega) (fun l hl => by have := b4 l hl; omega) (by omega) (fun l hl => by have := b5 l hl; omega)
  have HG := Lib.hid hg
  rw [hgf] at HG
  have HC := Lib.hid (rMay21_any n _ us L A1 (h.kept0 m1) (by omega) (fun k _ => by have := b2 k; omega))
  rw [hmy] at HC
  have HP := Lib.hid h
  have HU := Lib.hid hu
  have HZ := Lib.hid hz
  have HB2 := Lib.hid b2
  have HB4 := Lib.hid b4
  have HB5 := Lib.hid b5
  have HLL := Lib.hid hLl
  have HLK := Lib.hid (mayL_links2 hmy).2.2
  have HWL := Lib.hid hWl
  have HML := Lib.hid hMl
  have HUN := Lib.hid hn
  have HXN := Lib.hid hm
  have HZN := Lib.hid hk
  have HM1 := Lib.hid m1
  have hne : ((n : Int) != (n : Int)) = false := by simp
  have hmk : ∀ u : World, (Instr.makeSlice 23 (.int .i64 n) (.int .i64 n)).run Tryz.prog u = .ok (.slice (some ⟨u.heap.size, 0, none⟩) n n) (u.alloc (.cells (Array.replicate n (.slice none 0 0)) 30)) := fun u => run_makeSpanss n (by omega) u
  clear h hu hz hn hm hk b2 b4 b5 hgf hmy hLl hWl hMl m1 hg
  go_enter Tryz.func4, Tryz.ntmps4
  go_wp2_with fail
  refine HG.out.mono ?_
  rintro e w1 ⟨rfl, rfl⟩
  go_wp2_with fail
  refine HC.out.mono ?_
  rintro e w2 ⟨rfl, m2⟩
  have HM2 := Lib.hid (HM1.out.trans m2)
  have HCO := Lib.hid (grOf_any n _ us L w2 (HP.out.kept0 HM2.out) (by rw [HLL.out]; omega) (fun k _ => by have := HB2.out k; omega))
  clear m2 HC HG
  go_wp2_with fail
  refine HCO.out.mono ?_
  intro e w3 hp
  obtain ⟨m3, ⟨_, rfl⟩ | ⟨_, _, rfl⟩ | ⟨g1, g2, B, R, rfl, hg, hr, ho⟩⟩ := hp
  · have HM3 := Lib.hid (HM2.out.trans m3)
    clear m3 HCO
    go_wp2_with fail
    refine (known22_any _).mono ?_
    rintro e w9 ⟨rfl, m⟩
    have HMM := Lib.hid (HM3.out.trans m)
    clear m
    go_wp2_with fail
    go_ret
    exact ⟨rfl, HMM.out⟩
  · have HM3 := Lib.hid (HM2.out.trans m3)
    clear m3 HCO
    go_wp2_with fail
    refine (known22_any _).mono ?_
    rintro e w9 ⟨rfl, m⟩
    have HMM := Lib.hid (HM3.out.trans m)
    clear m
    go_wp2_with fail
    go_ret
    exact ⟨rfl, HMM.out⟩
  · rw [Int.toNat_natCast] at g2 hg
    have HQ := Lib.hid (of_graph g1 g2 hr ho)
    have HM3 := Lib.hid (HM2.out.trans m3)
    have HGR := Lib.hid hg
    have hll : ∀ k, (linksOf R k).length ≤ 1000000 := fun k => by
      by_cases hk : k < L.length
      · have h1 := once_len (ho k hk)
        have h2 := HB2.out k
        omega
      · rw [show linksOf R k = [] by simp [linksOf, hr, Nat.le_of_not_lt hk]]
        simp
    have HRK := Lib.hid hll
    have hbg : (begins W).length ≤ 40000 := by
      have h1 := begins_len (m := 6) HB4.out
      rw [HWL.out] at h1
      omega
    have HT := Lib.hid (drTouch_any _ B n R (orderR L n) _ xs W w3 hg (HU.out.kept0 HM3.out) HQ.out.1 HQ.out.2.1 HQ.out.2.2.2.1 HQ.out.2.2.2.2.2.1 HWL.out (fun k _ => hll k) HQ.out.2.2.2.2.2.2.1 (fun l hl => by have := HB4.out l hl; omega) hbg)
    clear m3 HCO g1 g2 hg hr ho hll hbg
    go_wp2_with fail
    refine HT.out.mono ?_
    rintro e w4 ⟨m4, v4, vT, T, rfl, hpT, hTl, hT⟩
    obtain ⟨ta, tc, rfl⟩ := hpT.row.form
    have hvT : vT.length = n := by rw [hpT.len, hTl]
    rw [hvT] at hpT ⊢
    have HPT := Lib.hid hpT
    have HVT := Lib.hid hvT
    have HTS := Lib.hid hT
    have HM4 := Lib.hid (HM3.out.trans m4)
    have HM34 := Lib.hid m4
    obtain ⟨B1, hB1⟩ : ∃ B1, w4.alloc (.cells (Array.replicate n (.slice none 0 0)) 30) = B1 := ⟨_, rfl⟩
    have HBS := Lib.hid (BothAt.start w4 n W M (by omega))
    rw [hB1] at HBS
    clear m4 hpT hvT hT hTl HT
    go_wp2_with fail
    go_loopw [70] (fun s70 wr => ∃ (i : Nat) (vs : List Value), i ≤ n ∧ s70 = .int .i64 i ∧ Hid (BothAt w4 wr w4.heap.size n W M i vs)) (fun s70 _ => n - (intOf s70).toNat)
    case atStart => exact ⟨0, _, by omega, rfl, HBS⟩
    case round =>
      clear HBS
      obtain ⟨i, vs, hi, rfl, hS⟩ := hrel
      by_cases hlt : i < n
      · obtain ⟨ob, oo, pa, pc, rfl, hc, q0, hs⟩ := (HU.out.kept0 (HM4.out.trans hS.out.mod)).get HXN.out hlt
        obtain ⟨mb, mo, qa, qc, rfl, hc2, q1, hs2⟩ := (HZ.out.kept0 (HM4.out.trans hS.out.mod)).get HZN.out hlt
        have hl6 : (linksOf W i).length ≤ 6 := by
          rw [show linksOf W i = W[i]'(by rw [HWL.out]; exact hlt) by simp [linksOf, HWL.out, hlt]]
          exact HB4.out _ (List.getElem_mem _)
        have hl7 : (linksOf M i).length ≤ 6 := by
          rw [show linksOf M i = M[i]'(by rw [HML.out]; exact hlt) by simp [linksOf, HML.out, hlt]]
          exact HB5.out _ (List.getElem_mem _)
        obtain ⟨A, a8, c8, w8, a9, c9, w9, hA, mA, k1, m8, k2, o9, m9⟩ := both_step hs hs2 (by omega) (by omega)
        have q0a := mA.cellD q0
        have q1a := mA.cellD q1
        have q18 := m8.cellD q1
        obtain ⟨u9, f9, g9⟩ := (hS.out.kept0 m9).cell hlt
        have K1 := Lib.hid k1
        have K2 := Lib.hid k2
        have HSN := Lib.hid (hS.out.store m9 o9 (Nat.le_refl _) hlt)
        clear k1 k2 mA m8 m9 o9 hs hs2
        go_wp2_with fail
        refine wp_plan [([0, 1, 3, 4, 8, 9, 5, 10, 6, 11], 2, [5, 10, 6, 11]), ([], 7, [10, 11]), ([], 12, []), ([13], 14, [])] [] (by kernel_rfl) (by kernel_rfl) ?_
        simp only [wpSegs, opsOf, List.map_cons, List.map_nil, opN, List.getD_cons_zero, List.getD_cons_succ]
        go_wp2_with fail
        refine ⟨by first | trivial | rfl, ?_⟩
        go_wp2_with fail
        refine ⟨?ag1, ?_⟩
        case ag1 =>
          intro i hi hw
          simp only [List.mem_cons, List.not_mem_nil, or_false] at hi
          rcases hi with rfl | rfl | rfl | rfl
          all_goals (simp only [opN, List.getD_cons_zero, List.getD_cons_succ, slotOf]; go_simp)
        go_wp2_with fail
        refine ⟨by first | trivial | rfl, ?_⟩
        go_wp2_with (((with_reducible refine xAppendAt K1.out rfl rfl ?_ ?_ ?_ ?_); exact rfl; exact rfl; exact rfl))
        refine ⟨?ag2, ?_⟩
        case ag2 =>
          intro i hi hw
          simp only [List.mem_cons, List.not_mem_nil, or_false] at hi
          rcases hi with rfl | rfl
          all_goals (simp only [opN, List.getD_cons_zero, List.getD_cons_succ, slotOf]; go_simp)
        go_wp2_with fail
        refine ⟨by first | trivial | rfl, ?_⟩
        go_wp2_with (((with_reducible refine xAppendAt K2.out rfl rfl ?_ ?_ ?_ ?_); exact rfl; exact rfl; exact rfl))
        refine ⟨again_nil, ?_⟩
        go_wp2_with fail
        refine ⟨by first | trivial | rfl, ?_⟩
        go_wp2_with fail
        refine ⟨again_nil, ?_⟩
        go_wp2_with fail
        refine ⟨by first | trivial | rfl, ?_⟩
        go_wp2_with fail
        go_roundw
        case rel => exact ⟨i + 1, _, by omega, by go_num, HSN⟩
        case measure => simp [intOf]; omega
      · have hin : n = i := by omega
        subst hin
        rename World => wo
        have HTV := Lib.hid (drTouch_any _ B n R (orderR L n) _ vs (bothL W M n) wo (HGR.out.kept0 (HM34.out.trans hS.out.mod)) hS.out.parts HQ.out.1 HQ.out.2.1 HQ.out.2.2.2.1 HQ.out.2.2.2.2.2.1 (bothL_len _ _ _) (fun k _ => HRK.out k) HQ.out.2.2.2.2.2.2.1 (fun l hl => by have := bothL_row (n := n) HB4.out HB5.out l hl; omega) (by
          have h1 := begins_len (m := 12) (W := bothL W M n) (bothL_row HB4.out HB5.out)
          rw [bothL_len] at h1
          omega))
        have HMO := Lib.hid (hS.out.mod)
        clear hS
        go_wp2_with fail
        refine HTV.out.mono ?_
        rintro e w5 ⟨m5, v5, vU, U, rfl, hpU, hUl, hU⟩
        obtain ⟨ua, uc, rfl⟩ := hpU.row.form
        have hvU : vU.length = n := by rw [hpU.len, hUl]
        rw [hvU] at hpU ⊢
        have HPU := Lib.hid hpU
        have HVU := Lib.hid hvU
        have HUS := Lib.hid hU
        have HM5 := Lib.hid (HM4.out.trans (HMO.out.trans m5))
        have HPT5 := Lib.hid (HPT.out.kept0 (HMO.out.trans m5))
        have HTL := Lib.hid (show ∀ k, k < n → (linksOf T k).length ≤ 40000 from fun k hk => Nat.le_trans ((HTS.out k hk).len (S := begins W) fun d h1 h2 => begins_tch HQ.out.2.2.2.2.2.2.1 h1 h2) (by
          have h1 := begins_len (m := 6) HB4.out
          rw [HWL.out] at h1
          omega))
        have HUL := Lib.hid (show ∀ k, k < n → (linksOf U k).length ≤ 40000 from fun k hk => Nat.le_trans ((hU k hk).len (S := begins (bothL W M n)) fun d h1 h2 => begins_tch HQ.out.2.2.2.2.2.2.1 h1 h2) (by
          have h1 := begins_len (m := 12) (W := bothL W M n) (bothL_row HB4.out HB5.out)
          rw [bothL_len] at h1
          omega))
        clear m5 hpU hvU hU hUl HTV HMO HPT hmk
        go_wp2_with fail
        go_loopw [116] (fun s116 wr => ∃ k : Nat, k ≤ n ∧ s116 = .int .i64 k ∧ Hid (Mod [] w5 wr)) (fun s116 _ => n - (intOf s116).toNat)
        case atStart => exact ⟨0, by omega, rfl, Lib.hid (Mod.refl _ _)⟩
        case round =>
          obtain ⟨k, hk, rfl, hMk⟩ := hrel
          rename World => wk
          by_cases hlt2 : k < n
          · --ROUND
            obtain ⟨ob, oo, pa, pc, rfl, hc, o0, hos⟩ := (HU.out.kept0 (HM5.out.trans hMk.out)).get HXN.out hlt2
            obtain ⟨tb, tq, qa, qc, rfl, hct, t0, hts⟩ := (HPT5.out.kept0 hMk.out).get HVT.out hlt2
            obtain ⟨ub, uq, ra, rc, rfl, hcu, v0, hus⟩ := (HPU.out.kept0 hMk.out).get HVU.out hlt2
            obtain ⟨nb, nq, la, lc, rfl, hcn, n0, hls⟩ := (HP.out.kept0 (HM5.out.trans hMk.out)).get HUN.out hlt2
            have hl6 : (linksOf W k).length ≤ 6 := by
              rw [show linksOf W k = W[k]'(by rw [HWL.out]; exact hlt2) by simp [linksOf, HWL.out, hlt2]]
              exact HB4.out _ (List.getElem_mem _)
            have hlL : (linksOf L k).length ≤ 3 := HB2.out k
            have hlT : (linksOf T k).length ≤ 40000 := HTL.out k hlt2
            have hlU : (linksOf U k).length ≤ 40000 := HUL.out k hlt2
            have HCW := Lib.hid (rHas_any _ (linksOf W k) d wk hos (by omega))
            have HCT := Lib.hid (rHas_any _ (linksOf T k) d wk hts (by omega))
            have HCU := Lib.hid (rHas_any _ (linksOf U k) d wk hus (by omega))
            have HCO := Lib.hid (rOf_any _ (linksOf W k) wk hos (by omega))
            have h3 : (hasB (linksOf W k) d = false ∧ hasB (linksOf T k) d = false) ∨ (hasB (linksOf W k) d = false ∧ hasB (linksOf T k) d = true ∧ hasB (linksOf U k) d = true) ∨ (hasB (linksOf W k) d = true ∧ hasB (linksOf T k) d = true ∧ hasB (linksOf U k) d = true) := by
              have h1 : hasB (linksOf W k) d = true → hasB (linksOf T k) d = true := days_own (HTS.out k hlt2)
              have h2 : hasB (linksOf T k) d = true → hasB (linksOf U k) d = true := days_more (HTS.out k hlt2) (HUS.out k hlt2) (bothL_in HWL.out)
              cases hw : hasB (linksOf W k) d <;> cases ht : hasB (linksOf T k) d <;> simp_all
            have HTSK := Lib.hid hts
            have HLS := Lib.hid hls
            clear hos hts hus hls
            rcases h3 with ⟨hw, ht⟩ | ⟨hw, ht, hv⟩ | ⟨hw, ht, hv⟩
            · rw [hw] at HCW
              rw [ht] at HCT
              clear hw ht
              go_wp2_with fail
              refine HCW.out.mono ?_
              rintro e wk ⟨rfl, rfl⟩
              go_wp2_with fail
              refine HCT.out.mono ?_
              rintro e wk ⟨rfl, rfl⟩
              go_wp2_with fail
              refine HCO.out.mono ?_
              rintro e w6 ⟨v6, rfl, o6, m6⟩
              obtain ⟨a6, c6, rfl⟩ := o6.row.form
              have n6 := m6.cellD n0
              have HM6 := Lib.hid m6
              have hz0 : (twoS (linksOf W k) [] 0).length ≤ 1000000 := by have := twoS_len (linksOf W k); omega
              obtain ⟨z0, HZ0⟩ : ∃ z, Hid ((twoS (linksOf W k) [] 0).length = z) := ⟨_, Lib.hid rfl⟩
              rw [HZ0.out] at hz0 ⊢
              clear m6 o6 HCO HCW HCT HCU
              go_wp2_with fail
              go_loopw [18, 163] (fun s18 s163 wr => ∃ (j : Nat) (b : Bool), j ≤ (linksOf L k).length ∧ s163 = .int .i64 j ∧ s18 = .bool b ∧ Hid (b = false → LedP L W T k j) ∧ Hid (Mod [] w6 wr)) (fun _ s163 _ => (linksOf L k).length - (intOf s163).toNat)
              case atStart => exact ⟨0, _, by omega, rfl, rfl, Lib.hid (fun hb => ⟨by rw [HZ0.out]; simpa using hb, by simp⟩), Lib.hid (Mod.refl _ _)⟩
              case round =>
                obtain ⟨j, b, hj, rfl, rfl, hB, hM⟩ := hrel
                by_cases hlt3 : j < (linksOf L k).length
                · obtain ⟨xb, xo, rfl, hxc, x0, x1⟩ := (HLS.out.kept0 (HM6.out.trans hM.out)).get2 hlt3
                  have HX := Lib.hid (HLK.out k _ (List.getElem_mem hlt3))
                  have HXM := Lib.hid (List.getElem_mem hlt3)
                  have HTK := Lib.hid (show (linksOf L k).take (j + 1) = (linksOf L k).take j ++ [(linksOf L k)[j]] from List.take_succ_eq_append_getElem hlt3)
                  generalize (linksOf L k)[j] = x at x0 x1 HX HXM HTK
                  obtain ⟨t1, x2⟩ := x
                  dsimp only at x0 x1 HX HXM
                  have hx := HX.out
                  obtain ⟨t, rfl⟩ := Int.eq_ofNat_of_zero_le hx.1
                  have htn : t < n := by omega
                  obtain ⟨Wx, hWx, nx, sx, mx⟩ := alloc_named2 wr (.cells #[.int .i64 t, .int .i64 x2] 41)
                  have y0 := cell_blk nx 0
                  have y1 := cell_blk nx 1
                  simp only [List.getElem?_toArray, List.getElem?_cons_succ, List.getElem?_cons_zero] at y0 y1
                  have hmx := (HM6.out.trans hM.out).trans mx
                  obtain ⟨_, _, pa2, pc2, e2, _, s0, hs2⟩ := (HPT5.out.kept0 (hMk.out.trans hmx)).get HVT.out htn
                  cases e2
                  have t0x := hmx.cellD t0
                  have hl2x : (linksOf T t).length ≤ 40000 := HTL.out t htn
                  have HCX := Lib.hid (rHas_any _ (linksOf T t) d Wx hs2 (by omega))
                  have HMN := Lib.hid (hM.out.trans mx)
                  have HBT := Lib.hid (show ∀ (q : Bool), b = false → q = decide (0 < (linksOf T t).length) → q = false → LedP L W T k (j + 1) from fun q hb hq hf => by
                    obtain ⟨p1, p2⟩ := hB.out hb
                    refine ⟨p1, fun y hy => ?_⟩
                    rw [HTK.out] at hy
                    rcases List.mem_append.1 hy with hy | hy
                    · exact p2 y hy
                    · simp at hy
                      subst hy
                      rw [hf] at hq
                      simpa using hq)
                  by_cases hbx : hasB (linksOf T t) d = true
                  · have hin := hasB_iff.1 hbx
                    obtain ⟨hd1, hd2, _⟩ := hin
                    obtain ⟨hT1, hT2⟩ := days_link (HQ.out.2.2.2.2.2.2.2.2 W) (HTS.out k hlt2) (HTS.out t htn) HXM.out hx.2.2.1 hbx
                    dsimp only at hT2
                    have HCK := Lib.hid (rHas_any _ (linksOf T k) d Wx (HTSK.out.kept0 hmx) (by omega))
                    have HCL := Lib.hid (rHas_any _ (linksOf T k) (min (d + x2) 3652059) Wx (HTSK.out.kept0 hmx) (by omega))
                    rw [hT1] at HCK
                    rw [hT2] at HCL
                    rw [hbx] at HCX
                    clear hT1 hT2 hbx hmx mx hs2 nx sx
                    go_wp2_with fail
                    refine HCX.out.mono ?_
                    rintro e Wx ⟨rfl, rfl⟩
                    go_wp2_with fail
                    refine HCK.out.mono ?_
                    rintro e Wx ⟨rfl, rfl⟩
                    go_wp2_with fail
                    refine HCL.out.mono ?_
                    rintro e Wx ⟨rfl, rfl⟩
                    cases b with
                    | true =>
                      go_wp2_with fail
                      go_roundw
                      case rel => exact ⟨j + 1, _, by omega, by go_num, rfl, Lib.hid (fun h => by cases h), HMN⟩
                      case measure => simp [intOf]; omega
                    | false =>
                      go_wp2_with fail
                      go_roundw
                      case rel => exact ⟨j + 1, _, by omega, by go_num, rfl, Lib.hid (fun h => HBT.out _ (by first | rfl | trivial) (by simp) h), HMN⟩
                      case measure => simp [intOf]; omega
                  · have hbf : hasB (linksOf T t) d = false := by simpa using hbx
                    rw [hbf] at HCX
                    clear hbf hbx hmx mx hs2 nx sx
                    go_wp2_with fail
                    refine HCX.out.mono ?_
                    rintro e Wx ⟨rfl, rfl⟩
                    cases b with
                    | true =>
                      go_wp2_with fail
                      go_roundw
                      case rel => exact ⟨j + 1, _, by omega, by go_num, rfl, Lib.hid (fun h => by cases h), HMN⟩
                      case measure => simp [intOf]; omega
                    | false =>
                      go_wp2_with fail
                      go_roundw
                      case rel => exact ⟨j + 1, _, by omega, by go_num, rfl, Lib.hid (fun h => HBT.out _ (by first | rfl | trivial) (by simp) h), HMN⟩
                      case measure => simp [intOf]; omega
                · have HE := Lib.hid (show (linksOf L k).take j = linksOf L k by rw [List.take_of_length_le (by omega)])
                  have HMN := Lib.hid (hMk.out.trans (HM6.out.trans hM.out))
                  have t0x := (HM6.out.trans hM.out).cellD t0
                  cases b with
                  | true =>
                    go_wp2_with fail
                    go_roundw
                    case rel => exact ⟨k + 1, by omega, by go_num, HMN⟩
                    case measure => simp [intOf]; omega
                  | false =>
                    obtain ⟨p1, p2⟩ := hB.out rfl
                    rw [HE.out] at p2
                    have hz := days_none (HQ.out.2.2.2.2.2.2.2.2 W) (HTS.out k hlt2) (fun x hx => by
                      have h1 := HLK.out k x hx
                      obtain ⟨t, ht⟩ := Int.eq_ofNat_of_zero_le h1.1
                      rw [ht, Int.toNat_natCast]
                      exact HTS.out t (by omega)) p1 p2
                    rw [hz] at t0x
                    clear p1 p2 hz t0
                    go_wp2_with fail
                    go_roundw
                    case rel => exact ⟨k + 1, by omega, by go_num, HMN⟩
                    case measure => simp [intOf]; omega
            · rw [hw] at HCW
              rw [ht] at HCT
              rw [hv] at HCU
              clear hw ht hv
              go_wp2_with fail
              refine HCW.out.mono ?_
              rintro e wk ⟨rfl, rfl⟩
              go_wp2_with fail
              refine HCT.out.mono ?_
              rintro e wk ⟨rfl, rfl⟩
              go_wp2_with fail
              refine HCU.out.mono ?_
              rintro e wk ⟨rfl, rfl⟩
              go_wp2_with fail
              refine HCO.out.mono ?_
              rintro e w6 ⟨v6, rfl, o6, m6⟩
              obtain ⟨a6, c6, rfl⟩ := o6.row.form
              have n6 := m6.cellD n0
              have HM6 := Lib.hid m6
              have hz0 : (twoS (linksOf W k) [] 0).length ≤ 1000000 := by have := twoS_len (linksOf W k); omega
              obtain ⟨z0, HZ0⟩ : ∃ z, Hid ((twoS (linksOf W k) [] 0).length = z) := ⟨_, Lib.hid rfl⟩
              rw [HZ0.out] at hz0 ⊢
              clear m6 o6 HCO HCW HCT HCU
              go_wp2_with fail
              go_loopw [18, 163] (fun s18 s163 wr => ∃ (j : Nat) (b : Bool), j ≤ (linksOf L k).length ∧ s163 = .int .i64 j ∧ s18 = .bool b ∧ Hid (b = false → LedP L W T k j) ∧ Hid (Mod [] w6 wr)) (fun _ s163 _ => (linksOf L k).length - (intOf s163).toNat)
              case atStart => exact ⟨0, _, by omega, rfl, rfl, Lib.hid (fun hb => ⟨by rw [HZ0.out]; simpa using hb, by simp⟩), Lib.hid (Mod.refl _ _)⟩
              case round =>
                obtain ⟨j, b, hj, rfl, rfl, hB, hM⟩ := hrel
                by_cases hlt3 : j < (linksOf L k).length
                · obtain ⟨xb, xo, rfl, hxc, x0, x1⟩ := (HLS.out.kept0 (HM6.out.trans hM.out)).get2 hlt3
                  have HX := Lib.hid (HLK.out k _ (List.getElem_mem hlt3))
                  have HXM := Lib.hid (List.getElem_mem hlt3)
                  have HTK := Lib.hid (show (linksOf L k).take (j + 1) = (linksOf L k).take j ++ [(linksOf L k)[j]] from List.take_succ_eq_append_getElem hlt3)
                  generalize (linksOf L k)[j] = x at x0 x1 HX HXM HTK
                  obtain ⟨t1, x2⟩ := x
                  dsimp only at x0 x1 HX HXM
                  have hx := HX.out
                  obtain ⟨t, rfl⟩ := Int.eq_ofNat_of_zero_le hx.1
                  have htn : t < n := by omega
                  obtain ⟨Wx, hWx, nx, sx, mx⟩ := alloc_named2 wr (.cells #[.int .i64 t, .int .i64 x2] 41)
                  have y0 := cell_blk nx 0
                  have y1 := cell_blk nx 1
                  simp only [List.getElem?_toArray, List.getElem?_cons_succ, List.getElem?_cons_zero] at y0 y1
                  have hmx := (HM6.out.trans hM.out).trans mx
                  obtain ⟨_, _, pa2, pc2, e2, _, s0, hs2⟩ := (HPT5.out.kept0 (hMk.out.trans hmx)).get HVT.out htn
                  cases e2
                  have t0x := hmx.cellD t0
                  have hl2x : (linksOf T t).length ≤ 40000 := HTL.out t htn
                  have HCX := Lib.hid (rHas_any _ (linksOf T t) d Wx hs2 (by omega))
                  have HMN := Lib.hid (hM.out.trans mx)
                  have HBT := Lib.hid (show ∀ (q : Bool), b = false → q = decide (0 < (linksOf T t).length) → q = false → LedP L W T k (j + 1) from fun q hb hq hf => by
                    obtain ⟨p1, p2⟩ := hB.out hb
                    refine ⟨p1, fun y hy => ?_⟩
                    rw [HTK.out] at hy
                    rcases List.mem_append.1 hy with hy | hy
                    · exact p2 y hy
                    · simp at hy
                      subst hy
                      rw [hf] at hq
                      simpa using hq)
                  by_cases hbx : hasB (linksOf T t) d = true
                  · have hin := hasB_iff.1 hbx
                    obtain ⟨hd1, hd2, _⟩ := hin
                    obtain ⟨hT1, hT2⟩ := days_link (HQ.out.2.2.2.2.2.2.2.2 W) (HTS.out k hlt2) (HTS.out t htn) HXM.out hx.2.2.1 hbx
                    dsimp only at hT2
                    have HCK := Lib.hid (rHas_any _ (linksOf T k) d Wx (HTSK.out.kept0 hmx) (by omega))
                    have HCL := Lib.hid (rHas_any _ (linksOf T k) (min (d + x2) 3652059) Wx (HTSK.out.kept0 hmx) (by omega))
                    rw [hT1] at HCK
                    rw [hT2] at HCL
                    rw [hbx] at HCX
                    clear hT1 hT2 hbx hmx mx hs2 nx sx
                    go_wp2_with fail
                    refine HCX.out.mono ?_
                    rintro e Wx ⟨rfl, rfl⟩
                    go_wp2_with fail
                    refine HCK.out.mono ?_
                    rintro e Wx ⟨rfl, rfl⟩
                    go_wp2_with fail
                    refine HCL.out.mono ?_
                    rintro e Wx ⟨rfl, rfl⟩
                    cases b with
                    | true =>
                      go_wp2_with fail
                      go_roundw
                      case rel => exact ⟨j + 1, _, by omega, by go_num, rfl, Lib.hid (fun h => by cases h), HMN⟩
                      case measure => simp [intOf]; omega
                    | false =>
                      go_wp2_with fail
                      go_roundw
                      case rel => exact ⟨j + 1, _, by omega, by go_num, rfl, Lib.hid (fun h => HBT.out _ (by first | rfl | trivial) (by simp) h), HMN⟩
                      case measure => simp [intOf]; omega
                  · have hbf : hasB (linksOf T t) d = false := by simpa using hbx
                    rw [hbf] at HCX
                    clear hbf hbx hmx mx hs2 nx sx
                    go_wp2_with fail
                    refine HCX.out.mono ?_
                    rintro e Wx ⟨rfl, rfl⟩
                    cases b with
                    | true =>
                      go_wp2_with fail
                      go_roundw
                      case rel => exact ⟨j + 1, _, by omega, by go_num, rfl, Lib.hid (fun h => by cases h), HMN⟩
                      case measure => simp [intOf]; omega
                    | false =>
                      go_wp2_with fail
                      go_roundw
                      case rel => exact ⟨j + 1, _, by omega, by go_num, rfl, Lib.hid (fun h => HBT.out _ (by first | rfl | trivial) (by simp) h), HMN⟩
                      case measure => simp [intOf]; omega
                · have HE := Lib.hid (show (linksOf L k).take j = linksOf L k by rw [List.take_of_length_le (by omega)])
                  have HMN := Lib.hid (hMk.out.trans (HM6.out.trans hM.out))
                  have t0x := (HM6.out.trans hM.out).cellD t0
                  cases b with
                  | true =>
                    go_wp2_with fail
                    go_roundw
                    case rel => exact ⟨k + 1, by omega, by go_num, HMN⟩
                    case measure => simp [intOf]; omega
                  | false =>
                    obtain ⟨p1, p2⟩ := hB.out rfl
                    rw [HE.out] at p2
                    have hz := days_none (HQ.out.2.2.2.2.2.2.2.2 W) (HTS.out k hlt2) (fun x hx => by
                      have h1 := HLK.out k x hx
                      obtain ⟨t, ht⟩ := Int.eq_ofNat_of_zero_le h1.1
                      rw [ht, Int.toNat_natCast]
                      exact HTS.out t (by omega)) p1 p2
                    rw [hz] at t0x
                    clear p1 p2 hz t0
                    go_wp2_with fail
                    go_roundw
                    case rel => exact ⟨k + 1, by omega, by go_num, HMN⟩
                    case measure => simp [intOf]; omega
            · rw [hw] at HCW
              rw [ht] at HCT
              rw [hv] at HCU
              clear hw ht hv
              go_wp2_with fail
              refine HCW.out.mono ?_
              rintro e wk ⟨rfl, rfl⟩
              go_wp2_with fail
              refine HCT.out.mono ?_
              rintro e wk ⟨rfl, rfl⟩
              go_wp2_with fail
              refine HCT.out.mono ?_
              rintro e wk ⟨rfl, rfl⟩
              go_wp2_with fail
              refine HCU.out.mono ?_
              rintro e wk ⟨rfl, rfl⟩
              go_wp2_with fail
              refine HCO.out.mono ?_
              rintro e w6 ⟨v6, rfl, o6, m6⟩
              obtain ⟨a6, c6, rfl⟩ := o6.row.form
              have n6 := m6.cellD n0
              have HM6 := Lib.hid m6
              have hz0 : (twoS (linksOf W k) [] 0).length ≤ 1000000 := by have := twoS_len (linksOf W k); omega
              obtain ⟨z0, HZ0⟩ : ∃ z, Hid ((twoS (linksOf W k) [] 0).length = z) := ⟨_, Lib.hid rfl⟩
              rw [HZ0.out] at hz0 ⊢
              clear m6 o6 HCO HCW HCT HCU
              go_wp2_with fail
              go_loopw [18, 163] (fun s18 s163 wr => ∃ (j : Nat) (b : Bool), j ≤ (linksOf L k).length ∧ s163 = .int .i64 j ∧ s18 = .bool b ∧ Hid (b = false → LedP L W T k j) ∧ Hid (Mod [] w6 wr)) (fun _ s163 _ => (linksOf L k).length - (intOf s163).toNat)
              case atStart => exact ⟨0, _, by omega, rfl, rfl, Lib.hid (fun hb => ⟨by rw [HZ0.out]; simpa using hb, by simp⟩), Lib.hid (Mod.refl _ _)⟩
              case round =>
                obtain ⟨j, b, hj, rfl, rfl, hB, hM⟩ := hrel
                by_cases hlt3 : j < (linksOf L k).length
                · obtain ⟨xb, xo, rfl, hxc, x0, x1⟩ := (HLS.out.kept0 (HM6.out.trans hM.out)).get2 hlt3
                  have HX := Lib.hid (HLK.out k _ (List.getElem_mem hlt3))
                  have HXM := Lib.hid (List.getElem_mem hlt3)
                  have HTK := Lib.hid (show (linksOf L k).take (j + 1) = (linksOf L k).take j ++ [(linksOf L k)[j]] from List.take_succ_eq_append_getElem hlt3)
                  generalize (linksOf L k)[j] = x at x0 x1 HX HXM HTK
                  obtain ⟨t1, x2⟩ := x
                  dsimp only at x0 x1 HX HXM
                  have hx := HX.out
                  obtain ⟨t, rfl⟩ := Int.eq_ofNat_of_zero_le hx.1
                  have htn : t < n := by omega
                  obtain ⟨Wx, hWx, nx, sx, mx⟩ := alloc_named2 wr (.cells #[.int .i64 t, .int .i64 x2] 41)
                  have y0 := cell_blk nx 0
                  have y1 := cell_blk nx 1
                  simp only [List.getElem?_toArray, List.getElem?_cons_succ, List.getElem?_cons_zero] at y0 y1
                  have hmx := (HM6.out.trans hM.out).trans mx
                  obtain ⟨_, _, pa2, pc2, e2, _, s0, hs2⟩ := (HPT5.out.kept0 (hMk.out.trans hmx)).get HVT.out htn
                  cases e2
                  have t0x := hmx.cellD t0
                  have hl2x : (linksOf T t).length ≤ 40000 := HTL.out t htn
                  have HCX := Lib.hid (rHas_any _ (linksOf T t) d Wx hs2 (by omega))
                  have HMN := Lib.hid (hM.out.trans mx)
                  have HBT := Lib.hid (show ∀ (q : Bool), b = false → q = decide (0 < (linksOf T t).length) → q = false → LedP L W T k (j + 1) from fun q hb hq hf => by
                    obtain ⟨p1, p2⟩ := hB.out hb
                    refine ⟨p1, fun y hy => ?_⟩
                    rw [HTK.out] at hy
                    rcases List.mem_append.1 hy with hy | hy
                    · exact p2 y hy
                    · simp at hy
                      subst hy
                      rw [hf] at hq
                      simpa using hq)
                  by_cases hbx : hasB (linksOf T t) d = true
                  · have hin := hasB_iff.1 hbx
                    obtain ⟨hd1, hd2, _⟩ := hin
                    obtain ⟨hT1, hT2⟩ := days_link (HQ.out.2.2.2.2.2.2.2.2 W) (HTS.out k hlt2) (HTS.out t htn) HXM.out hx.2.2.1 hbx
                    dsimp only at hT2
                    have HCK := Lib.hid (rHas_any _ (linksOf T k) d Wx (HTSK.out.kept0 hmx) (by omega))
                    have HCL := Lib.hid (rHas_any _ (linksOf T k) (min (d + x2) 3652059) Wx (HTSK.out.kept0 hmx) (by omega))
                    rw [hT1] at HCK
                    rw [hT2] at HCL
                    rw [hbx] at HCX
                    clear hT1 hT2 hbx hmx mx hs2 nx sx
                    go_wp2_with fail
                    refine HCX.out.mono ?_
                    rintro e Wx ⟨rfl, rfl⟩
                    go_wp2_with fail
                    refine HCK.out.mono ?_
                    rintro e Wx ⟨rfl, rfl⟩
                    go_wp2_with fail
                    refine HCL.out.mono ?_
                    rintro e Wx ⟨rfl, rfl⟩
                    cases b with
                    | true =>
                      go_wp2_with fail
                      go_roundw
                      case rel => exact ⟨j + 1, _, by omega, by go_num, rfl, Lib.hid (fun h => by cases h), HMN⟩
                      case measure => simp [intOf]; omega
                    | false =>
                      go_wp2_with fail
                      go_roundw
                      case rel => exact ⟨j + 1, _, by omega, by go_num, rfl, Lib.hid (fun h => HBT.out _ (by first | rfl | trivial) (by simp) h), HMN⟩
                      case measure => simp [intOf]; omega
                  · have hbf : hasB (linksOf T t) d = false := by simpa using hbx
                    rw [hbf] at HCX
                    clear hbf hbx hmx mx hs2 nx sx
                    go_wp2_with fail
                    refine HCX.out.mono ?_
                    rintro e Wx ⟨rfl, rfl⟩
                    cases b with
                    | true =>
                      go_wp2_with fail
                      go_roundw
                      case rel => exact ⟨j + 1, _, by omega, by go_num, rfl, Lib.hid (fun h => by cases h), HMN⟩
                      case measure => simp [intOf]; omega
                    | false =>
                      go_wp2_with fail
                      go_roundw
                      case rel => exact ⟨j + 1, _, by omega, by go_num, rfl, Lib.hid (fun h => HBT.out _ (by first | rfl | trivial) (by simp) h), HMN⟩
                      case measure => simp [intOf]; omega
                · have HE := Lib.hid (show (linksOf L k).take j = linksOf L k by rw [List.take_of_length_le (by omega)])
                  have HMN := Lib.hid (hMk.out.trans (HM6.out.trans hM.out))
                  have t0x := (HM6.out.trans hM.out).cellD t0
                  cases b with
                  | true =>
                    go_wp2_with fail
                    go_roundw
                    case rel => exact ⟨k + 1, by omega, by go_num, HMN⟩
                    case measure => simp [intOf]; omega
                  | false =>
                    obtain ⟨p1, p2⟩ := hB.out rfl
                    rw [HE.out] at p2
                    have hz := days_none (HQ.out.2.2.2.2.2.2.2.2 W) (HTS.out k hlt2) (fun x hx => by
                      have h1 := HLK.out k x hx
                      obtain ⟨t, ht⟩ := Int.eq_ofNat_of_zero_le h1.1
                      rw [ht, Int.toNat_natCast]
                      exact HTS.out t (by omega)) p1 p2
                    rw [hz] at t0x
                    clear p1 p2 hz t0
                    go_wp2_with fail
                    go_roundw
                    case rel => exact ⟨k + 1, by omega, by go_num, HMN⟩
                    case measure => simp [intOf]; omega
          · --REST
            go_wp2_with fail
            refine (known22_any _).mono ?_
            rintro e w9 ⟨rfl, m9⟩
            have HMM := Lib.hid (HM5.out.trans (hMk.out.trans m9))
            clear m9
            go_wp2_with fail
            go_ret
            exact ⟨rfl, HMM.out⟩
end Go.Proofs.YtefaihockgebeaaGreat
namespace Go.Proofs.YtefaihockgebeaaGreat
open Go.RowKit Go.ChangeMaps Go.Deep
set_option linter.unusedSimpArgs false
set_option linter.unusedVariables false
theorem dirtyDays_any (d : Int) (v u y : Value) (us xs zs : List Value) (L : Lks) (W M : List (List Sp)) (w : World) (h : PartsAt w v us L) (hu : PartsAt w u xs W) (hz : PartsAt w y zs M)
    (hl : L.length ≤ 140737488355328) (hll : ∀ k, k < L.length → (linksOf L k).length ≤ 140737488355328) (hW : W.length ≤ 140737488355328) (hWl : ∀ l ∈ W, l.length ≤ 140737488355328) (hM : M.length ≤ 140737488355328) (hMl : ∀ l ∈ M, l.length ≤ 140737488355328) :
    Calls Tryz.prog 4 #[v, u, y, .int .i64 d] w fun e w' => e = .returned (.bool true) ∧ Mod [] w w' := by
  obtain ⟨a, c, rfl⟩ := h.row.form
  obtain ⟨a2, c2, rfl⟩ := hu.row.form
  obtain ⟨a3, c3, rfl⟩ := hz.row.form
  by_cases hno : great22B L [W, M] = true ∨ xs.length ≠ us.length ∨ zs.length ≠ us.length ∨ mayL us.length L = false
  · exact dirtyDays_known d a a2 a3 c c2 c3 us.length xs.length zs.length us xs zs L W M w h hu hz rfl hl hll hW hWl hM hMl hno
  · simp only [not_or, Decidable.not_not, ne_eq, Bool.not_eq_true, Bool.not_eq_false] at hno
    obtain ⟨h1, h2, h3, h4⟩ := hno
    obtain ⟨b1, b2, b3⟩ := great22_small h1
    have hul := h.len
    rw [h2] at hu ⊢
    rw [h3] at hz ⊢
    exact dirtyDays_run d a a2 a3 c c2 c3 us.length us xs zs L W M w h hu hz rfl h2 h3 (by omega) b2 (b3 W (by simp)).2 (b3 M (by simp)).2 h1 h4
end Go.Proofs.YtefaihockgebeaaGreat
namespace Go.Proofs.YtefaihockgebeaaGreat
open Go.ChangeShapes Go.WideShapes Go.ChangeAt Go.RowKit Go.Deep
set_option linter.unusedSimpArgs false
set_option linter.unusedVariables false
theorem cS_Link : Tryz.prog.cellsOf 41 = 2 := by kernel_rfl
theorem bS_Link : Tryz.prog.bytesOf 41 = 16 := by kernel_rfl
theorem cS_Links : Tryz.prog.cellsOf 39 = 1 := by kernel_rfl
theorem bS_Links : Tryz.prog.bytesOf 39 = 24 := by kernel_rfl
theorem RowAt.map' {α β : Type} {enc : β → List Value} {g : α → β} {w : World} {v : Value} {l : List α} (h : RowAt (fun x => enc (g x)) w v l) : RowAt enc w v (l.map g) := by
  have e : ∀ l : List α, flat (fun x => enc (g x)) l = flat enc (l.map g) := fun l => by simp [flat, List.flatMap_map]
  cases h with
  | nil a cap => exact .nil a cap
  | at_ b o cap l hc h =>
    have := RowAt.at_ (enc := enc) (w := w) b o cap (l.map g) (by simpa using hc) (by rw [← e]; exact h)
    simpa using this
instance : Inhabited (Value × List Sp) := ⟨(.slice none 0 0, [])⟩
section
variable {H : Type} {enc : TypeId × Value → H} {w : World}
theorem link_cells {n : Nat} {xs : List Value} {d : DataW H × List MemPlace} (h : DataW.trod enc Tryz.prog w 0 (fun _ => true) true n 41 xs = some d) (hl : xs.length = 2) : ∃ x : Sp, xs = encS x ∧ Sp64 x := by
  obtain ⟨x, y, rfl⟩ := list_two hl
  obtain ⟨y0, y1, m, rfl', _, h0, h1⟩ := trod_struct2 Tryz.underlying41 h
  simp only [cS_int, List.drop_zero, List.drop_succ_cons, List.take_succ_cons, List.take_zero] at h0 h1
  obtain ⟨a, e0, _, w0⟩ := DataW.trod_int Tryz.underlying3 h0
  obtain ⟨b, e1, _, w1⟩ := DataW.trod_int Tryz.underlying3 h1
  simp at e0 e1
  exact ⟨(a, b), by rw [e0, e1]; rfl, i64_le w0, i64_le w1⟩
theorem links_cells {n : Nat} {cs : List Value} {d : DataW H} {pl : List MemPlace} (h : DataW.trod enc Tryz.prog w 0 (fun _ => true) true n 39 cs = some (d, pl)) (hw : Lite Tryz.prog 39 d) :
    ∃ (v : Value) (l : List Sp), cs = [v] ∧ SpansAt w v l ∧ l.length ≤ 140737488355328 ∧ ∀ x ∈ l, Sp64 x := by
  obtain ⟨v, l, e, hr, hq, hb⟩ := rows_cells (enc := encS) (Q := Sp64) Tryz.underlying39 (by rw [cS_Link]; omega) (fun x => by rw [cS_Link]; rfl) (fun n xs d pl h hw hl => link_cells h (by rw [cS_Link] at hl; exact hl)) h hw
  refine ⟨v, l, e, hr, ?_, hq⟩
  rw [bS_Link] at hb
  simp [reachBytes] at hb
  omega
theorem links2_arg {v : Value} {d : DataW H} {pl : List MemPlace} (hv : ∃ a n c, v = .slice a n c) (h : DataW.Trod enc Tryz.prog w 0 (fun _ => true) true 22 v d pl) (hw : Lite Tryz.prog 22 d) :
    ∃ us L, PartsAt w v us L ∧ L.length ≤ 140737488355328 ∧ (∀ k, k < L.length → (L.getD k []).length ≤ 140737488355328) ∧ ∀ k, k < L.length → ∀ x ∈ L.getD k [], Sp64 x := by
  obtain ⟨a, n, c, rfl⟩ := hv
  obtain ⟨fuel, hf⟩ := h
  obtain ⟨v, l, e, hr, hq, hb⟩ := rows_cells (enc := fun x : Value × List Sp => encV x.1) (Q := fun x => SpansAt w x.1 x.2 ∧ x.2.length ≤ 140737488355328 ∧ ∀ y ∈ x.2, Sp64 y) Tryz.underlying22 (by rw [cS_Links]; omega) (fun x => by rw [cS_Links]; rfl) (fun n xs d pl h hw hl => by
    obtain ⟨v, l, e, hs, hn, hx⟩ := links_cells h hw
    exact ⟨(v, l), e, hs, hn, hx⟩) hf hw
  simp [Value.cells] at e
  subst e
  refine ⟨l.map (·.1), l.map (·.2), ⟨?_, by simp, fun j h1 h2 => ?_⟩, ?_, fun k hk => ?_, fun k hk x hx => ?_⟩
  · exact RowAt.map' (g := fun x : Value × List Sp => x.1) hr
  · simp only [List.getElem_map]
    exact (hq _ (List.getElem_mem _)).1
  · rw [bS_Links] at hb
    simp [reachBytes] at hb ⊢
    omega
  · simp at hk
    have := (hq _ (List.getElem_mem hk)).2.1
    simpa [hk] using this
  · simp at hk
    have := (hq _ (List.getElem_mem hk)).2.2
    simp [hk] at hx
    exact this x hx
end
end Go.Proofs.YtefaihockgebeaaGreat
namespace Go.Proofs.YtefaihockgebeaaGreat
open Go.ChangeShapes Go.WideShapes Go.ChangeAt Go.RowKit Go.Deep
set_option linter.unusedSimpArgs false
set_option linter.unusedVariables false
theorem cS_Spans : Tryz.prog.cellsOf 30 = 1 := by kernel_rfl
theorem bS_Spans : Tryz.prog.bytesOf 30 = 24 := by kernel_rfl
section
variable {H : Type} {enc : TypeId × Value → H} {w : World}
theorem spans_cells {n : Nat} {cs : List Value} {d : DataW H} {pl : List MemPlace} (h : DataW.trod enc Tryz.prog w 0 (fun _ => true) true n 30 cs = some (d, pl)) (hw : Lite Tryz.prog 30 d) :
    ∃ (v : Value) (l : List Sp), cs = [v] ∧ SpansAt w v l ∧ l.length ≤ 140737488355328 ∧ ∀ x ∈ l, Sp64 x := by
  obtain ⟨v, l, e, hr, hq, hb⟩ := rows_cells (enc := encS) (Q := Sp64) Tryz.underlying30 (by rw [cS_Span]; omega) (fun x => by rw [cS_Span]; rfl) (fun n xs d pl h hw hl => span_cells h (by rw [cS_Span] at hl; exact hl)) h hw
  refine ⟨v, l, e, hr, ?_, hq⟩
  rw [bS_Span] at hb
  simp [reachBytes] at hb
  omega
theorem spans2_arg {v : Value} {d : DataW H} {pl : List MemPlace} (hv : ∃ a n c, v = .slice a n c) (h : DataW.Trod enc Tryz.prog w 0 (fun _ => true) true 23 v d pl) (hw : Lite Tryz.prog 23 d) :
    ∃ us L, PartsAt w v us L ∧ L.length ≤ 140737488355328 ∧ (∀ l ∈ L, l.length ≤ 140737488355328) ∧ ∀ l ∈ L, ∀ x ∈ l, Sp64 x := by
  obtain ⟨a, n, c, rfl⟩ := hv
  obtain ⟨fuel, hf⟩ := h
  obtain ⟨v, l, e, hr, hq, hb⟩ := rows_cells (enc := fun x : Value × List Sp => encV x.1) (Q := fun x => SpansAt w x.1 x.2 ∧ x.2.length ≤ 140737488355328 ∧ ∀ y ∈ x.2, Sp64 y) Tryz.underlying23 (by rw [cS_Spans]; omega) (fun x => by rw [cS_Spans]; rfl) (fun n xs d pl h hw hl => by
    obtain ⟨v, l, e, hs, hn, hx⟩ := spans_cells h hw
    exact ⟨(v, l), e, hs, hn, hx⟩) hf hw
  simp [Value.cells] at e
  subst e
  refine ⟨l.map (·.1), l.map (·.2), ⟨?_, by simp, fun j h1 h2 => ?_⟩, ?_, fun m hm => ?_, fun m hm x hx => ?_⟩
  · exact RowAt.map' (g := fun x : Value × List Sp => x.1) hr
  · simp only [List.getElem_map]
    exact (hq _ (List.getElem_mem _)).1
  · rw [bS_Spans] at hb
    simp [reachBytes] at hb ⊢
    omega
  · obtain ⟨y, hy, rfl⟩ := List.mem_map.1 hm
    exact (hq _ hy).2.1
  · obtain ⟨y, hy, rfl⟩ := List.mem_map.1 hm
    exact (hq _ hy).2.2 x hx
end
end Go.Proofs.YtefaihockgebeaaGreat
namespace Go.Proofs.YtefaihockgebeaaGreat
open Go.ChangeShapes Go.WideShapes Go.ChangeAt Go.RowKit Go.ChangeMaps Go.Deep
set_option linter.unusedSimpArgs false
set_option linter.unusedVariables false
set_option maxRecDepth 100000 in
theorem dirtyDays_lifted (os : Os) (started : os.Started) (H : Type) (enc : TypeId × Value → H) :
    ReturnsInHanded {} Tryz.checked os 4 .any (Rows.dirtyDaysSpec.pre6 enc Tryz.prog Tryz.f4 Rows.dirtyDaysRow.domain false) (Rows.dirtyDaysSpec.post enc Tryz.prog Tryz.f4 false true false false) := by
  refine returnsInHanded_of_change_sized (C := Tryz.checked) own started (by kernel_rfl) Tryz.func4
    (ChangeSpec.witness6 (enc := enc) (C := Tryz.checked) false ⟨#[], #[.slice none 0 0, .slice none 0 0, .slice none 0 0, .int .i64 0], []⟩ 8 (by kernel_rfl) (by kernel_rfl) (by kernel_rfl) (by kernel_rfl)) ?_
  intro W base args ds gs before hval0 hW hcnd hsz _
  have hval : ∀ (j : Nat) t v, Tryz.f4.params[j]? = some t → args[j]? = some v → Value.okWide Tryz.prog W .any base t v := hval0
  have hW' := hW
  obtain ⟨p, q, hA0, hV, rfl, hfz, hnd⟩ := hW
  have hA : DataW.TrodAll enc Tryz.prog W 0 (fun _ => true) true Tryz.f4.params.toList args.toList ds p := hA0
  have hsz' : (DataW.weightsEach Tryz.prog (Tryz.f4.params.toList ++ (ChangeSpec.plain Rows.dirtyDaysSpec).varTypes Tryz.prog) (ds ++ gs)).all (· ≤ reachBytes) = true := hsz
  rw [Tryz.params4] at hA hval hsz'
  obtain ⟨v0, vs0, d0, ds0, p0, q0, hargs, rfl, rfl, h0, r0⟩ := trodAll_cons hA
  obtain ⟨v1, vs1, d1, ds1, p1, q1, rfl, rfl, rfl, h1, r1⟩ := trodAll_cons r0
  obtain ⟨v2, vs2, d2, ds2, p2, q2, rfl, rfl, rfl, h2, r2⟩ := trodAll_cons r1
  obtain ⟨v3, vs3, d3, ds3, p3, q3, rfl, rfl, rfl, h3, r3⟩ := trodAll_cons r2
  obtain ⟨rfl, rfl, rfl⟩ := trodAll_nil r3
  obtain rfl : args = #[v0, v1, v2, v3] := by cases args; simp_all
  obtain ⟨rfl, rfl⟩ := trodVars_none hV
  have hl0 : Lite Tryz.prog 22 d0 := Lite.of hsz' (j := 0) rfl rfl
  have hl1 : Lite Tryz.prog 23 d1 := Lite.of hsz' (j := 1) rfl rfl
  have hl2 : Lite Tryz.prog 23 d2 := Lite.of hsz' (j := 2) rfl rfl
  obtain ⟨u0, l0, s0, n0, m0, x0⟩ := links2_arg (okWide_slice Tryz.underlying22 (hval 0 22 v0 rfl rfl)) h0 hl0
  obtain ⟨u1, l1, s1, n1, m1, x1⟩ := spans2_arg (okWide_slice Tryz.underlying23 (hval 1 23 v1 rfl rfl)) h1 hl1
  obtain ⟨u2, l2, s2, n2, m2, x2⟩ := spans2_arg (okWide_slice Tryz.underlying23 (hval 2 23 v2 rfl rfl)) h2 hl2
  obtain ⟨a3, rfl, rfl, rfl, w3⟩ := open_int Tryz.underlying3 (hval 3 3 v3 rfl rfl) h3
  clear hA0 hval0
  refine (dirtyDays_any a3 v0 v1 v2 u0 u1 u2 l0 l1 l2 W s0 s1 s2 n0 m0 n1 m1 n2 m2).mono fun e W' ⟨he, hg⟩ => ⟨_, he, law_post ?_ hW' hg.toBelow rfl rfl rfl⟩
  rw [Tryz.params4]
  simp only [List.mem_cons, List.not_mem_nil, or_false]
  rintro t (rfl | rfl | rfl | rfl)
  all_goals exact ⟨by kernel_rfl, of_decide_eq_true (by kernel_rfl)⟩
theorem dirtyDays_holds : Rows.DirtyDaysSaid :=
  OpenClaim.holds_of_wide 4 Tryz.f4 rfl rfl rfl rfl rfl rfl rfl ⟨rfl, rfl, rfl, rfl, rfl⟩ rfl rfl rfl rfl rfl (by kernel_rfl) Tryz.func4 (by kernel_rfl)
    (of_decide_eq_true (by kernel_rfl)) (by unfold Func.isWrapper; first | (rw [if_pos (by decide +kernel)]; kernel_rfl) | (rw [if_neg (by decide +kernel)]; exact ⟨rfl, rfl⟩))
    (fun os started H enc _ => dirtyDays_lifted os started H enc)
#print axioms dirtyDays_holds
end Go.Proofs.YtefaihockgebeaaGreat

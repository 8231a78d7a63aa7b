/- Spans: inside. -/
import Derived.Test.YtefaihockgebeaaGreatSpM
namespace Go.Proofs.YtefaihockgebeaaGreat
open Go.RowKit Go.ChangeMaps Go.Deep
set_option linter.unusedSimpArgs false
set_option linter.unusedVariables false
set_option maxRecDepth 20000

/-- Block B holds a slice that reads as a row, and lies in none of some blocks. -/
def BoxAt (w : World) (B : Nat) (L : List Sp) (K : Nat → Prop) : Prop := ∃ v, w.heap[B]? = some (.cells #[v] 30 (0, 0)) ∧ SpansAt w v L ∧ ∀ b, K b → v.ownBlock ≠ some b
def boxLen (w : World) (B : Nat) : Nat := match w.heap[B]? with
  | some (.cells c _ _) => match (c[0]? : Option Value) with
    | some (.slice _ n _) => n
    | _ => 0
  | _ => 0
theorem boxLen_of {w : World} {B : Nat} {a : Option Addr} {n c : Nat} (h : w.heap[B]? = some (.cells #[.slice a n c] 30 (0, 0))) : boxLen w B = n := by simp [boxLen, h]
theorem boxLen_set {w : World} {B : Nat} {v0 : Value} {a : Option Addr} {n c : Nat} (h : w.heap[B]? = some (.cells #[v0] 30 (0, 0))) : boxLen (w.setCell ⟨B, 0, none⟩ (.slice a n c)) B = n := by
  have := heap_setCell_blk h 0 (.slice a n c)
  simp [boxLen, this]
theorem BoxAt.kept {w w' : World} {B : Nat} {L : List Sp} {K : Nat → Prop} {ks : List Nat} (h : BoxAt w B L K) (hm : Mod ks w w') (hB : B ∉ ks) (hk : ∀ b ∈ ks, K b) : BoxAt w' B L K := by
  obtain ⟨v, h1, h2, h3⟩ := h
  exact ⟨v, hm.heap h1 hB, h2.kept hm (fun b hb => h3 b (hk b hb)), h3⟩
theorem BoxAt.kept0 {w w' : World} {B : Nat} {L : List Sp} {K : Nat → Prop} (h : BoxAt w B L K) (hm : Mod [] w w') : BoxAt w' B L K := h.kept hm (by simp) (by simp)
theorem BoxAt.set {w : World} {B : Nat} {v0 v : Value} {L : List Sp} {K : Nat → Prop} (h : w.heap[B]? = some (.cells #[v0] 30 (0, 0))) (hv : SpansAt w v L) (hn : ∀ b, K b → v.ownBlock ≠ some b) (hB : K B) : BoxAt (w.setCell ⟨B, 0, none⟩ v) B L K :=
  ⟨v, by have := heap_setCell_blk h 0 v; simpa using this, hv.kept ((Mod.refl [B] w).setCell (by simp) v) (by
    intro b hb
    rw [List.mem_singleton] at hb
    subst hb
    exact hn b hB), hn⟩
theorem dropTo_nil (d : Int) : dropTo [] d = [] := rfl
set_option maxHeartbeats 4000000 in
theorem spInside_any (B : Nat) (L : List Sp) (d : Int) (w : World) (K : Nat → Prop) (hK : K B) (h : BoxAt w B L K) (hL : L.length ≤ 1000000) :
    Calls Tryz.prog 55 #[.pointer (some ⟨B, 0, none⟩), .int .i64 d] w fun e w' => e = .returned (.bool (headIn (dropTo L d) d)) ∧ BoxAt w' B (dropTo L d) K ∧ Mod [B] w w' := by
  have H := Lib.hid h
  have HK := Lib.hid hK
  clear h
  go_enter Tryz.func55, Tryz.ntmps55
  go_wp2_with fail
  go_loopw [7] (fun _ wr => ∃ L', Hid (BoxAt wr B L' K) ∧ Hid (dropTo L' d = dropTo L d) ∧ L'.length ≤ 1000000 ∧ Hid (Mod [B] w wr)) (fun _ wr => boxLen wr B)
  case atStart => exact ⟨L, H, Lib.hid rfl, hL, Lib.hid (Mod.refl _ _)⟩
  case round =>
    obtain ⟨L', hB, hD, hl, hM⟩ := hrel
    obtain ⟨v, h1, h2, h3⟩ := hB.out
    obtain ⟨a, c, rfl⟩ := h2.form
    have qv := cell_blk h1 0
    have fv := frozen_blk h1 0
    simp at qv
    cases L' with
    | nil =>
      have HR := Lib.hid (show headIn (dropTo L d) d = false by rw [← hD.out]; rfl)
      have HE := Lib.hid (show BoxAt wr B (dropTo L d) K by rw [← hD.out]; exact hB.out)
      clear h1 h2 h3
      go_wp2_with fail
      go_ret
      exact ⟨by rw [HR.out]; rfl, HE.out, hM.out⟩
    | cons x L' =>
      obtain ⟨b, o, rfl, hc, c0, c1⟩ := h2.get2 (i := 0) (by simp)
      simp only [Nat.zero_mul, Nat.add_zero, List.getElem_cons_zero] at c0 c1
      by_cases hx : x.2 ≤ d
      · have HDX := Lib.hid (show dropTo L' d = dropTo L d by rw [← hD.out, dropTo_cons, if_pos hx])
        have hcut := h2.cut encS_len 1 (by simp)
        simp only [Option.map_some, Addr.add_mid, Nat.one_mul, List.drop_succ_cons, List.drop_zero, List.length_cons, Nat.add_sub_cancel] at hcut
        have hll : L'.length ≤ 1000000 := by simp at hl; omega
        have hcl : 1 ≤ c := by simp at hc; omega
        have HB1 : Hid (BoxAt (wr.setCell ⟨B, 0, none⟩ (.slice (if c = 1 then some ⟨b, o, none⟩ else some ⟨b, o + 2, none⟩) L'.length (c - 1))) B L' K) := Lib.hid (.set h1 hcut (by
          intro q hq e
          apply h3 q hq
          simp only [Value.ownBlock]
          split at e <;> simpa [Value.ownBlock] using e) hK)
        have HM1 := Lib.hid (fun u => hM.out.trans ((Mod.refl [B] wr).setCell (p := ⟨B, 0, none⟩) (by simp) u))
        have HS1 := Lib.hid (fun (a : Option Addr) (n c : Nat) => boxLen_set (a := a) (n := n) (c := c) h1)
        have HS0 := Lib.hid (boxLen_of h1)
        obtain ⟨x1, x2⟩ := x
        dsimp only at c0 c1 hx
        clear h1 h2 h3 hcut
        by_cases hc1 : c = 1
        · subst hc1
          rw [if_pos rfl] at HB1
          go_wp2_with fail
          refine ⟨⟨L', HB1, HDX, hll, Lib.hid (HM1.out _)⟩, ?_⟩
          rw [HS0.out, HS1.out]
          simp
        · rw [if_neg hc1] at HB1
          go_wp2_with fail
          refine ⟨⟨L', HB1, HDX, hll, Lib.hid (HM1.out _)⟩, ?_⟩
          rw [HS0.out, HS1.out]
          simp
      · have HE := Lib.hid (show dropTo L d = x :: L' by rw [← hD.out, dropTo_cons, if_neg hx])
        have HEB := Lib.hid (show BoxAt wr B (dropTo L d) K by rw [HE.out]; exact hB.out)
        have HR := Lib.hid (show headIn (dropTo L d) d = decide (x.1 ≤ d) by rw [HE.out]; rfl)
        obtain ⟨x1, x2⟩ := x
        dsimp only at c0 c1 hx HR
        clear h1 h2 h3
        by_cases hy : x1 ≤ d
        · go_wp2_with fail
          go_ret
          exact ⟨by rw [HR.out, decide_eq_true hy]; rfl, HEB.out, hM.out⟩
        · have HY := Lib.hid (decide_eq_false hy)
          go_wp2_with fail
          go_ret
          exact ⟨by rw [HR.out, HY.out]; rfl, HEB.out, hM.out⟩
end Go.Proofs.YtefaihockgebeaaGreat

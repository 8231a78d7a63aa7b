/- Spans: May, own, All, Has. -/
import Derived.Test.YtefaihockgebeaaGreatSpD
namespace Go.Proofs.YtefaihockgebeaaGreat
open Go.RowKit Go.ChangeMaps Go.Deep
set_option linter.unusedSimpArgs false
set_option linter.unusedVariables false
set_option maxRecDepth 20000

theorem RowAt.get2 {w : World} {a : Option Addr} {c : Nat} {l : List Sp} (h : SpansAt w (.slice a l.length c) l) {i : Nat} (hi : i < l.length) :
    ∃ b o, a = some ⟨b, o, none⟩ ∧ l.length ≤ c ∧ w.cell? ⟨b, o + i * 2, none⟩ = some (.int .i64 l[i].1) ∧ w.cell? ⟨b, o + i * 2 + 1, none⟩ = some (.int .i64 l[i].2) := by
  obtain ⟨b, o, e, hc, hg⟩ := h.get encS_len hi
  have h0 := hg 0 (.int .i64 l[i].1) (by omega) rfl
  have h1 := hg 1 (.int .i64 l[i].2) (by omega) rfl
  exact ⟨b, o, e, hc, h0, by rw [Nat.add_assoc]; exact h1⟩
theorem RowAt.get1 {w : World} {a : Option Addr} {c : Nat} {l : List Int} (h : IntsIn w (.slice a l.length c) l) {i : Nat} (hi : i < l.length) :
    ∃ b o, a = some ⟨b, o, none⟩ ∧ l.length ≤ c ∧ w.cell? ⟨b, o + i, none⟩ = some (.int .i64 l[i]) := by
  obtain ⟨b, o, e, hc, hg⟩ := h.get encI_len hi
  have h0 := hg 0 (.int .i64 l[i]) (by omega) rfl
  exact ⟨b, o, e, hc, by simpa using h0⟩
def mayB : Int → List Sp → Bool
  | _, [] => true
  | a, x :: l => decide (a < x.1) && decide (x.1 < x.2) && decide (x.2 ≤ 3652060) && mayB x.2 l
theorem mayB_iff {l : List Sp} : ∀ {a : Int}, mayB a l = true ↔ Right a l := by
  induction l with
  | nil => intro a; simp [mayB, Right]
  | cons x l ih => intro a; simp [mayB, Right, ih, and_assoc]
/-- the numbers of a span's slice are such as int64 holds -/
def Wide64 (l : List Sp) : Prop := ∀ x ∈ l, -9223372036854775808 ≤ x.1 ∧ x.1 ≤ 9223372036854775807 ∧ -9223372036854775808 ≤ x.2 ∧ x.2 ≤ 9223372036854775807
theorem Right.wide {a : Int} {l : List Sp} (h0 : 0 ≤ a) (h : Right a l) : ∀ x ∈ l, 0 ≤ x.1 ∧ x.1 < x.2 ∧ x.2 ≤ 3652060 := by
  induction l generalizing a with
  | nil => intro _ h; cases h
  | cons y l ih =>
    obtain ⟨h1, h2, h3, h4⟩ := h
    intro x hx
    rcases List.mem_cons.1 hx with rfl | hx
    · exact ⟨by omega, h2, h3⟩
    · exact ih (by omega) h4 x hx
def inOne (d : Int) (x : Sp) : Bool := decide (x.1 ≤ d) && decide (d < x.2)
theorem inB_eq (l : List Sp) (d : Int) : inB l d = l.any (inOne d) := rfl
/-- .. the day lies in a block of its own -/
def DayAt (w : World) (B : Nat) (d : Int) : Prop := w.heap[B]? = some (.cells #[.int .i64 d] 3 (0, 0))
end Go.Proofs.YtefaihockgebeaaGreat

/- Layer 25: an operation is read. -/
import Derived.Test.YtnoookcfacmdkaaReqK
namespace Go.Proofs.Ytnoookcfacmdkaa
open Go.RowKit Go.ChangeMaps
set_option linter.unusedSimpArgs false
set_option linter.unusedVariables false

theorem p1 : (256 : Int) ^ 1 = 256 := by decide
theorem rdo_any {w : World} {rb bb : Nat} {l : List Int} (h : Rd w rb bb l) (B0 : Byt l) :
    Calls Try.prog 39 #[.pointer (some ⟨rb, 0, none⟩)] w (Reads w rb bb (pDo l) fun d => .agg d.cells.toArray) := by
  cases q0 : pNum 1 l with
  | none =>
    rw [show pDo l = none by unfold pDo; rw [q0]]
    exact do_k_none h B0 (Lib.hid q0)
  | some x =>
    obtain ⟨k, r1⟩ := x
    obtain ⟨hk0, hk1, B1⟩ := pNum_byt B0 q0
    rw [p1] at hk1
    by_cases k1 : k = 1
    · subst k1
      cases q1 : pText 1 r1 with
      | none =>
        rw [show pDo l = none by unfold pDo; simp [q0, q1]]
        exact do_1_text h B0 B1 (Lib.hid q0) (Lib.hid q1)
      | some y =>
        obtain ⟨nm, r2⟩ := y
        have B2 := pText_byt B1 q1
        cases q2 : pNum 1 r2 with
        | none =>
          rw [show pDo l = none by unfold pDo; simp [q0, q1, q2]]
          exact do_1_kind h B0 B1 B2 (Lib.hid q0) (Lib.hid q1) (Lib.hid q2)
        | some z =>
          obtain ⟨fk, r3⟩ := z
          obtain ⟨hf0, hf1, _⟩ := pNum_byt B2 q2
          rw [p1] at hf1
          rw [show pDo l = some ({ DoR.zero with k := 1, nm := nm, fk := fk }, r3) by unfold pDo; simp [q0, q1, q2]]
          exact do_1_all h B0 B1 B2 ⟨hf0, hf1⟩ (Lib.hid q0) (Lib.hid q1) (Lib.hid q2)
    · cases q1 : pNum 1 r1 with
      | none =>
        rw [show pDo l = none by unfold pDo; simp [q0, q1, k1]]
        exact do_f_none h B0 B1 ⟨hk0, hk1⟩ k1 (Lib.hid q0) (Lib.hid q1)
      | some y =>
        obtain ⟨f, r2⟩ := y
        obtain ⟨hf0, hf1, B2⟩ := pNum_byt B1 q1
        rw [p1] at hf1
        by_cases k2 : k = 2
        · subst k2
          cases q2 : pSpan r2 with
          | none =>
            rw [show pDo l = none by unfold pDo; simp [q0, q1, q2]]
            exact do_2_span h B0 B1 B2 ⟨hf0, hf1⟩ (Lib.hid q0) (Lib.hid q1) (Lib.hid q2)
          | some z =>
            obtain ⟨xs, r3⟩ := z
            have B3 := pSpan_byt B2 q2
            cases q3 : pVal r3 with
            | none =>
              rw [show pDo l = none by unfold pDo; simp [q0, q1, q2, q3]]
              exact do_2_value h B0 B1 B2 ⟨hf0, hf1⟩ (Lib.hid q0) (Lib.hid q1) B3 (Lib.hid q2) (Lib.hid q3)
            | some v =>
              obtain ⟨xv, r4⟩ := v
              rw [show pDo l = some ({ DoR.zero with k := 2, f := f, a := xs.1, b := xs.2, vk := xv.1, c := xv.2.1, s := xv.2.2 }, r4) by unfold pDo; simp [q0, q1, q2, q3]]
              exact do_2_all h B0 B1 B2 ⟨hf0, hf1⟩ (Lib.hid q0) (Lib.hid q1) B3 (Lib.hid q2) (Lib.hid q3)
        · by_cases k3 : k = 3
          · subst k3
            cases q2 : pSpan r2 with
            | none =>
              rw [show pDo l = none by unfold pDo; simp [q0, q1, q2]]
              exact do_3_none h B0 B1 B2 ⟨hf0, hf1⟩ (Lib.hid q0) (Lib.hid q1) (Lib.hid q2)
            | some z =>
              obtain ⟨xs, r3⟩ := z
              rw [show pDo l = some ({ DoR.zero with k := 3, f := f, a := xs.1, b := xs.2 }, r3) by unfold pDo; simp [q0, q1, q2]]
              exact do_3_all h B0 B1 B2 ⟨hf0, hf1⟩ (Lib.hid q0) (Lib.hid q1) (Lib.hid q2)
          · by_cases k4 : k = 4
            · subst k4
              cases q2 : pText 2 r2 with
              | none =>
                rw [show pDo l = none by unfold pDo; simp [q0, q1, q2]]
                exact do_4_none h B0 B1 B2 ⟨hf0, hf1⟩ (Lib.hid q0) (Lib.hid q1) (Lib.hid q2)
              | some z =>
                obtain ⟨tx, r3⟩ := z
                rw [show pDo l = some ({ DoR.zero with k := 4, f := f, tx := tx }, r3) by unfold pDo; simp [q0, q1, q2]]
                exact do_4_all h B0 B1 B2 ⟨hf0, hf1⟩ (Lib.hid q0) (Lib.hid q1) (Lib.hid q2)
            · by_cases k6 : k = 6
              · subst k6
                cases q2 : pText 2 r2 with
                | none =>
                  rw [show pDo l = none by unfold pDo; simp [q0, q1, q2]]
                  exact do_6_none h B0 B1 B2 ⟨hf0, hf1⟩ (Lib.hid q0) (Lib.hid q1) (Lib.hid q2)
                | some z =>
                  obtain ⟨tx, r3⟩ := z
                  rw [show pDo l = some ({ DoR.zero with k := 6, f := f, tx := tx }, r3) by unfold pDo; simp [q0, q1, q2]]
                  exact do_6_all h B0 B1 B2 ⟨hf0, hf1⟩ (Lib.hid q0) (Lib.hid q1) (Lib.hid q2)
              · rw [show pDo l = some ({ DoR.zero with k := k, f := f }, r2) by unfold pDo; simp [q0, q1, k1, k2, k3, k4, k6]]
                exact do_other h B0 B1 ⟨hk0, hk1⟩ ⟨hf0, hf1⟩ k1 k2 k3 k4 k6 (Lib.hid q0) (Lib.hid q1)
end Go.Proofs.Ytnoookcfacmdkaa

/- The law's arguments; great; Append of nothing. -/
import Derived.Test.YtnjfgbbdfdoccaaJnW
namespace Go.Proofs.Ytnjfgbbdfdoccaa
open Go.RowKit Go.ChangeMaps
set_option linter.unusedSimpArgs false
set_option linter.unusedVariables false
set_option maxRecDepth 20000

structure OpJ where
  kind : Int
  at_ : Int
  after : Int
  v : Value
  l : List Int
structure OpJAt (w : World) (ba o : Nat) (q : OpJ) : Prop where
  cells : w.rangeAt ba o [.int .i64 q.kind, .int .i64 q.at_, .int .i64 q.after, q.v]
  row : RowAt enc8 w q.v q.l
  isb : IsB q.l
  max : q.l.length ≤ 140737488355328
theorem OpJAt.kept0 {w w' : World} {ba o : Nat} {q : OpJ} (h : OpJAt w ba o q) (m : Mod [] w w') : OpJAt w' ba o q :=
  ⟨rangeAt_mod h.cells m (by simp), h.row.kept0 m, h.isb, h.max⟩
structure OpsJ (w : World) (a : Option Addr) (L : List OpJ) : Prop where
  each : ∀ i q, L[i]? = some q → ∃ ba oa, a = some ⟨ba, oa, none⟩ ∧ OpJAt w ba (oa + i * 4) q
theorem OpJAt.cs {w : World} {ba o : Nat} {q : OpJ} (h : OpJAt w ba o q) : w.cell? ⟨ba, o, none⟩ = some (.int .i64 q.kind) ∧ w.cell? ⟨ba, o + 1, none⟩ = some (.int .i64 q.at_) ∧ w.cell? ⟨ba, o + 2, none⟩ = some (.int .i64 q.after) ∧ w.cell? ⟨ba, o + 3, none⟩ = some q.v :=
  ⟨h.cells 0 _ rfl, h.cells 1 _ rfl, h.cells 2 _ rfl, h.cells 3 _ rfl⟩
/-- a row lies in a block that is there, or it is empty -/
theorem RowAt.below {w : World} {v : Value} {l : List Int} (h : RowAt enc8 w v l) (hl : l ≠ []) : ∀ bb o n c, v = .slice (some ⟨bb, o, none⟩) n c → bb < w.heap.size := by
  intro bb o n c e
  cases h with
  | nil a cap => exact absurd rfl hl
  | at_ b o' cap l hc hr =>
    have h1 := rangeAt_lt hr (by intro e; apply hl; rw [flat8] at e; exact List.map_eq_nil_iff.1 e)
    simp at e
    obtain ⟨⟨rfl, _⟩, _⟩ := e
    exact h1
set_option maxHeartbeats 1000000 in
theorem jAppend_nil {w : World} {base j d m : Nat} {J : Jk} {D : Dk} (h : JAt w base j d m J D) (hd : J.dead = false) (a : Option Addr) (c : Nat) :
    Calls Try.prog 11 #[.pointer (some ⟨j, 0, none⟩), .slice a 0 c] w fun e w' => e = .returned (.int .i64 2) ∧ w = w' := by
  have CN := Lib.hid (jNone_at h)
  obtain ⟨_, _, _, c4⟩ := h.cells
  rw [hd] at c4
  clear h
  go_enter Try.func11, Try.ntmps11
  go_wp2_with fail
  refine CN.out.mono ?_
  rintro e w' ⟨rfl, rfl⟩
  go_wp2_with fail
  go_ret
  exact ⟨rfl, rfl⟩
def GreatRet (w : World) (L : List OpJ) (e : Ending) (w' : World) : Prop := ∃ r : Bool, e = .returned (.bool r) ∧ Mod [] w w' ∧ Hid (r = false → L.length ≤ 60 ∧ ∀ q ∈ L, q.l.length ≤ 3000)
set_option maxHeartbeats 2000000 in
theorem great_at {w : World} {a : Option Addr} {L : List OpJ} {cap : Nat} (n : Int) (h : OpsJ w a L) (hl : L.length ≤ 140737488355328) :
    Calls Try.prog 5 #[.int .i64 n, .slice a L.length cap] w (GreatRet w L) := by
  have H := Lib.hid h
  clear h
  go_enter Try.func5, Try.ntmps5
  go_wp2_with fail
  go_loopw [5, 10] (fun s5 s10 W => ∃ (i : Nat) (s : Int), i ≤ L.length ∧ s10 = .int .i64 i ∧ s5 = .int .i64 s ∧ 0 ≤ s ∧ s ≤ (i : Int) * 3000 ∧ Hid (Mod [] w W ∧ ∀ q ∈ L.take i, q.l.length ≤ 3000)) (fun _ s10 _ => L.length - (intOf s10).toNat)
  case atStart => exact ⟨0, 0, by omega, rfl, rfl, by omega, by omega, Lib.hid ⟨Mod.refl _ _, by simp⟩⟩
  case round =>
    obtain ⟨i, s, hi, rfl, rfl, hs0, hs1, hS⟩ := hrel
    by_cases hlt : i < L.length
    · obtain ⟨q, hq⟩ : ∃ q, L[i]? = some q := ⟨L[i], List.getElem?_eq_getElem hlt⟩
      obtain ⟨ba, oa, rfl, hop⟩ := H.out.each i q hq
      obtain ⟨p0, p1, p2, p3⟩ := (hop.kept0 hS.out.1).cs
      obtain ⟨va, vc, hv⟩ := hop.row.form
      have HTK := Lib.hid (show L.take (i + 1) = L.take i ++ [q] from by rw [List.take_succ_eq_append_getElem hlt, (List.getElem?_eq_some_iff.1 hq).2])
      rw [hv] at p3
      have hmx := hop.max
      obtain ⟨ql, hql⟩ : ∃ ql, q.l.length = ql := ⟨_, rfl⟩
      rw [hql] at p3 hmx
      have HQL := Lib.hid hql
      clear hql
      obtain ⟨w1, hAl, kA, zA, mA⟩ := alloc_named2 wr (.cells #[.int .i64 q.kind, .int .i64 q.at_, .int .i64 q.after, .slice va ql vc] 35)
      have b3 := cell_blk kA 3
      simp only [List.getElem?_toArray, List.getElem?_cons_succ, List.getElem?_cons_zero] at b3
      have HM := Lib.hid (hS.out.1.trans mA)
      have HT := Lib.hid hS.out.2
      have HAl := Lib.hid hAl
      clear hop hv hq hAl kA zA mA hS
      by_cases hgt : 3000 < ql
      · have d1 : decide (3000 < (ql : Int)) = true := decide_eq_true (by omega)
        go_wp2_with fail
        go_ret
        exact ⟨true, rfl, by rw [HAl.out]; exact HM.out, Lib.hid (fun h => by cases h)⟩
      · have d1 : decide (3000 < (ql : Int)) = false := decide_eq_false (by omega)
        go_wp2_with fail
        go_roundw
        case rel => exact ⟨i + 1, s + ql, by omega, by go_num, rfl, by omega, by omega, Lib.hid ⟨by rw [HAl.out]; exact HM.out, fun y hy => by
          rw [HTK.out] at hy
          rcases List.mem_append.1 hy with hy | hy
          · exact HT.out y hy
          · simp at hy; subst hy; have := HQL.out; omega⟩⟩
        case measure => simp [intOf]; omega
    · obtain rfl : i = L.length := by omega
      have HM := Lib.hid hS.out.1
      have HT := Lib.hid (show ∀ q ∈ L, q.l.length ≤ 3000 from by have := hS.out.2; rw [List.take_length] at this; exact this)
      clear hS
      have d0 : decide ((L.length : Int) < (L.length : Int)) = false := decide_eq_false (by omega)
      by_cases h60 : 60 < L.length
      · have d1 : decide (60 < (L.length : Int)) = true := decide_eq_true (by omega)
        go_wp2_with fail
        go_ret
        exact ⟨true, rfl, HM.out, Lib.hid (fun h => by cases h)⟩
      · have d1 : decide (60 < (L.length : Int)) = false := decide_eq_false (by omega)
        have HF := Lib.hid (show L.length ≤ 60 ∧ ∀ q ∈ L, q.l.length ≤ 3000 from ⟨by omega, HT.out⟩)
        go_wp2_with fail
        all_goals go_ret
        all_goals exact ⟨_, rfl, HM.out, Lib.hid (fun _ => HF.out)⟩
end Go.Proofs.Ytnjfgbbdfdoccaa

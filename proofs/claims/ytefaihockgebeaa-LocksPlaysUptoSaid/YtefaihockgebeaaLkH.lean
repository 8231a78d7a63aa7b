/- Locks: great. -/
import Derived.Test.YtefaihockgebeaaLkA
namespace Go.Proofs.Ytefaihockgebeaa
open Go.RowKit Go.ChangeMaps Go.Deep
set_option linter.unusedSimpArgs false
set_option linter.unusedVariables false
set_option maxRecDepth 20000

structure OpX where
  kind : Int
  f : Int
  t : Int
  runs : List Rn
def encO (x : (Int × Int × Int) × Value) : List Value := [.int .i64 x.1.1, .int .i64 x.1.2.1, .int .i64 x.1.2.2, x.2]
theorem encO_len (x : (Int × Int × Int) × Value) : (encO x).length = 4 := rfl
/-- A slice of calls. -/
structure OpsAt (w : World) (v : Value) (us : List ((Int × Int × Int) × Value)) (xs : List OpX) : Prop where
  row : RowAt encO w v us
  len : us.length = xs.length
  part : ∀ j (h : j < us.length) (h' : j < xs.length), us[j].1 = (xs[j].kind, xs[j].f, xs[j].t) ∧ ∃ vs, RunsAt w us[j].2 vs xs[j].runs
theorem OpsAt.kept0 {w w' : World} {v : Value} {us : List ((Int × Int × Int) × Value)} {xs : List OpX} (h : OpsAt w v us xs) (hm : Mod [] w w') : OpsAt w' v us xs :=
  ⟨h.row.kept0 hm, h.len, fun j a b => ⟨(h.part j a b).1, let ⟨vs, h2⟩ := (h.part j a b).2; ⟨vs, h2.kept0 hm⟩⟩⟩
theorem OpsAt.form {w : World} {v : Value} {us : List ((Int × Int × Int) × Value)} {xs : List OpX} (h : OpsAt w v us xs) : ∃ a c, v = .slice a xs.length c := by
  obtain ⟨a, c, e⟩ := h.row.form
  exact ⟨a, c, by rw [e, h.len]⟩
theorem OpsAt.get {w : World} {a : Option Addr} {n c : Nat} {us : List ((Int × Int × Int) × Value)} {xs : List OpX} (h : OpsAt w (.slice a n c) us xs) {i : Nat} (hi : i < xs.length) :
    ∃ b o s vs, a = some ⟨b, o, none⟩ ∧ n = xs.length ∧ xs.length ≤ c ∧ w.cell? ⟨b, o + i * 4, none⟩ = some (.int .i64 xs[i].kind) ∧ w.cell? ⟨b, o + i * 4 + 1, none⟩ = some (.int .i64 xs[i].f) ∧ w.cell? ⟨b, o + i * 4 + 2, none⟩ = some (.int .i64 xs[i].t) ∧ w.cell? ⟨b, o + i * 4 + 3, none⟩ = some s ∧ RunsAt w s vs xs[i].runs := by
  obtain ⟨a', c', e⟩ := h.row.form
  simp only [Value.slice.injEq] at e
  obtain ⟨rfl, rfl, rfl⟩ := e
  have hi' : i < us.length := by rw [h.len]; exact hi
  obtain ⟨b, o, e, hc, hg⟩ := h.row.get encO_len hi'
  obtain ⟨p1, vs, p2⟩ := h.part i hi' hi
  have q1 : us[i].1.1 = xs[i].kind := by rw [p1]
  have q2 : us[i].1.2.1 = xs[i].f := by rw [p1]
  have q3 : us[i].1.2.2 = xs[i].t := by rw [p1]
  refine ⟨b, o, us[i].2, vs, e, h.len, by rw [← h.len]; exact hc, ?_, ?_, ?_, by rw [Nat.add_assoc]; exact hg 3 _ (by omega) rfl, p2⟩
  · rw [← q1]; exact hg 0 _ (by omega) rfl
  · rw [← q2, Nat.add_assoc]; exact hg 1 _ (by omega) rfl
  · rw [← q3, Nat.add_assoc]; exact hg 2 _ (by omega) rfl
/-- an answer, whichever -/
def IsB (e : Ending) : Prop := ∃ g : Bool, e = .returned (.bool g)
theorem IsB.mk {e : Ending} (g : Bool) (h : e = .returned (.bool g)) : IsB e := ⟨g, h⟩
set_option maxHeartbeats 4000000 in
theorem great28_any (v : Value) (us : List ((Int × Int × Int) × Value)) (xs : List OpX) (w : World) (h : OpsAt w v us xs) (hl : xs.length ≤ 140737488355328) (hrl : ∀ x ∈ xs, x.runs.length ≤ 140737488355328) (hsl : ∀ x ∈ xs, ∀ r ∈ x.runs, r.segs.length ≤ 140737488355328) :
    Calls Try.prog 45 #[v] w fun e w' => IsB e ∧ w' = w := by
  have H := Lib.hid h
  have HRL := Lib.hid hrl
  have HSL := Lib.hid hsl
  obtain ⟨a, c, rfl⟩ := h.form
  clear h hrl hsl
  go_enter Try.func45, Try.ntmps45
  go_wp2_with fail
  go_loop [3, 8] (fun s3 s8 => ∃ (i : Nat) (z : Int), i ≤ xs.length ∧ s8 = .int .i64 i ∧ s3 = .int .i64 z) (fun _ s8 => xs.length - (intOf s8).toNat)
  case atStart => exact ⟨0, 0, by omega, rfl, rfl⟩
  case round =>
    obtain ⟨i, z, hi, rfl, rfl⟩ := hrel
    by_cases hlt : i < xs.length
    · obtain ⟨b, o, s, vs, rfl, he, hc, e0, e1, e2, e3, hs⟩ := H.out.get hlt
      obtain ⟨sa, sc, rfl⟩ := hs.form
      have hlr : xs[i].runs.length ≤ 140737488355328 := HRL.out _ (List.getElem_mem hlt)
      have HLS := Lib.hid (HSL.out _ (List.getElem_mem hlt))
      generalize xs[i] = x at e3 hs hlr HLS
      obtain ⟨x1, x2, x3, rs⟩ := x
      dsimp only at e3 hs hlr HLS
      have HS := Lib.hid hs
      clear hs e0 e1 e2
      go_wp2_with fail
      go_loop [3, 17] (fun s3 s17 => ∃ (k : Nat) (z : Int), k ≤ rs.length ∧ s17 = .int .i64 k ∧ s3 = .int .i64 z) (fun _ s17 => rs.length - (intOf s17).toNat)
      case atStart => exact ⟨0, z, by omega, rfl, rfl⟩
      case round =>
        obtain ⟨k, y, hk, rfl, rfl⟩ := hrel
        by_cases hlt2 : k < rs.length
        · obtain ⟨b2, o2, s2, rfl, he2, hc2, f0, f1, hs2⟩ := HS.out.get hlt2
          obtain ⟨sa2, sc2, rfl⟩ := hs2.form
          have hls : rs[k].segs.length ≤ 140737488355328 := HLS.out _ (List.getElem_mem hlt2)
          generalize rs[k].segs = sg at f1 hls hs2
          clear hs2 f0
          go_wp2_with fail
          go_round
          case rel => exact ⟨k + 1, _, by omega, by go_num, rfl⟩
          case measure => simp [intOf]; omega
        · go_wp2_with fail
          go_round
          case rel => exact ⟨i + 1, _, by omega, by go_num, rfl⟩
          case measure => simp [intOf]; omega
    · by_cases h1 : 30 < xs.length
      · go_wp2_with fail
        go_ret
        exact ⟨IsB.mk _ rfl, rfl⟩
      · by_cases h2 : 200 < z
        · go_wp2_with fail
          go_ret
          exact ⟨IsB.mk _ rfl, rfl⟩
        · go_wp2_with fail
          go_ret
          exact ⟨IsB.mk _ rfl, rfl⟩
end Go.Proofs.Ytefaihockgebeaa

/- Spans: how they lie; slices.Clone. -/
import Derived.Test.YtefaihockgebeaaGreatProg
import Derived.Test.YtefaihockgebeaaGreatRow1
import Derived.Test.YtefaihockgebeaaGreatSpC
import Derived.Test.YtefaihockgebeaaGreatOps
import Derived.Test.YtefaihockgebeaaGreatRegH
namespace Go.Proofs.YtefaihockgebeaaGreat
open Go.RowKit Go.ChangeMaps Go.Deep
set_option linter.unusedSimpArgs false
set_option linter.unusedVariables false
set_option maxRecDepth 20000

def encS (x : Sp) : List Value := [.int .i64 x.1, .int .i64 x.2]
def encI (n : Int) : List Value := [.int .i64 n]
theorem encS_len (x : Sp) : (encS x).length = 2 := rfl
theorem encI_len (x : Int) : (encI x).length = 1 := rfl
theorem encS_one (x : Sp) : ∀ v ∈ encS x, v.oneCell' = true := by intro v hv; simp [encS] at hv; rcases hv with rfl | rfl <;> rfl
theorem encI_one (x : Int) : ∀ v ∈ encI x, v.oneCell' = true := by intro v hv; simp [encI] at hv; subst hv; rfl
theorem elemSpan : ElemOk Tryz.prog 30 45 2 16 := .mk' Tryz.underlying30 (by omega) (by kernel_rfl)
theorem elemInt : ElemOk Tryz.prog 46 3 1 8 := .mk' Tryz.underlying46 (by omega) (by kernel_rfl)
abbrev SpansAt (w : World) (v : Value) (l : List Sp) : Prop := RowAt encS w v l
abbrev IntsIn (w : World) (v : Value) (l : List Int) : Prop := RowAt encI w v l
abbrev OwnS (w : World) (base : Nat) (v : Value) (l : List Sp) : Prop := OwnR encS 2 45 w base v l
abbrev OwnN (w : World) (base : Nat) (v : Value) (l : List Int) : Prop := OwnR encI 1 3 w base v l
section
variable {α : Type} {enc : α → List Value} {k : Nat} {w : World} {v : Value} {l : List α} {P : Program} {t E : TypeId}
theorem RowAt.src (hk : ∀ x, (enc x).length = k) (h1 : ∀ x, ∀ v ∈ enc x, v.oneCell' = true) (h : RowAt enc w v l) (ht : P.underlying t = some (.slice E)) : Src P k t v l.length (flat enc l) w := by
  cases h with
  | nil a cap =>
    cases a with
    | none => exact Src.ofNil w ht cap
    | some a => exact Src.ofSlice w ht a 0 cap [] (by simp) (fun j u hu => by simp at hu) (by simp)
  | at_ b o cap l hc h =>
    exact Src.ofSlice w ht ⟨b, o, none⟩ l.length cap _ (by rw [flat_length hk]) (fun j u hu => by rw [Addr.add_mid]; exact h j u hu) (by
      intro u hu
      obtain ⟨x, _, hx⟩ := List.mem_flatMap.1 hu
      exact h1 x u hx)
theorem OwnR.fresh (w : World) (base : Nat) (hb : base ≤ w.heap.size) : OwnR enc k E (w.alloc (.cells #[] E)) base (.slice (some ⟨w.heap.size, 0, none⟩) 0 0) [] :=
  ⟨by simp [flat], .inr ⟨w.heap.size, 0, #[], rfl, hb, heap_alloc_new w _, Nat.le_refl _, Nat.zero_le _, by simp, by simp [flat]⟩⟩
theorem RowAt.of_none (h : RowAt enc w v l) {n c : Nat} (e : v = .slice none n c) : l = [] := by
  cases h with
  | nil a cap => rfl
  | at_ b o cap l hc h => cases e
end
set_option maxHeartbeats 1000000 in
theorem cloneSpan_any (v : Value) (l : List Sp) (w : World) (h : SpansAt w v l) (hl : l.length ≤ 1000000) :
    Calls Tryz.prog 41 #[v] w fun e w' => ∃ v', e = .returned v' ∧ OwnS w' w.heap.size v' l ∧ Mod [] w w' := by
  have H := Lib.hid h
  obtain ⟨a, c, rfl⟩ := h.form
  clear h
  cases a with
  | none =>
    have hl0 : l = [] := H.out.of_none rfl
    subst hl0
    have hq := fun (w : World) => Lib.run_eql_slice_nil (P := Tryz.prog) w 30 45 none 0 c 0 0 Tryz.underlying30
    go_enter Tryz.func41, Tryz.ntmps41
    go_wp2
    go_ret
    exact ⟨_, rfl, OwnR.nil_ _ _, Mod.refl _ _⟩
  | some a =>
    have hm := (Mod.refl [] w).alloc (.cells #[] 45)
    obtain ⟨v', w', g1, g2, g3⟩ := own_append elemSpan encS_len (OwnR.fresh (enc := encS) (k := 2) (E := 45) w w.heap.size (Nat.le_refl _)) (by simp) (ty := 30) ((H.out.kept0 hm).src encS_len encS_one Tryz.underlying30) (by simp; omega) (by omega)
    have G1 := Lib.hid g1
    have G2 := Lib.hid g2
    have G3 := Lib.hid (g3.intoNil (OwnR.fresh (enc := encS) (k := 2) (E := 45) w w.heap.size (Nat.le_refl _)) (Nat.le_refl _) hm)
    clear g1 g2 g3 hm
    have hq := fun (w : World) => Lib.run_eql_slice_nil (P := Tryz.prog) w 30 45 (some a) l.length c 0 0 Tryz.underlying30
    go_enter Tryz.func41, Tryz.ntmps41
    go_wp2_with (((with_reducible refine xAppendAt G1.out rfl rfl ?_ ?_ ?_ ?_); exact rfl; exact rfl; exact rfl))
    go_ret
    exact ⟨_, rfl, by simpa using G2.out, G3.out⟩
end Go.Proofs.YtefaihockgebeaaGreat

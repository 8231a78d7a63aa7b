/- Layer 7's statements: great, known. -/
import Derived.Test.YtefaihockgebeaaGreatSpP
namespace Go.Proofs.YtefaihockgebeaaGreat
open Go.RowKit Go.ChangeMaps Go.Deep
set_option linter.unusedSimpArgs false
set_option linter.unusedVariables false
set_option maxRecDepth 20000

theorem row_lit {α : Type} {enc : α → List Value} {E : TypeId} (w : World) (l : List α) (c : Array Value) (n : Nat) (hc : c = (flat enc l).toArray) (hn : n = l.length) : RowAt enc (w.alloc (.cells c E)) (.slice (some ⟨w.heap.size, 0, none⟩) n n) l := by
  subst hc; subst hn
  exact .at_ _ 0 _ l (Nat.le_refl _) (fun j u hu => by
    rw [Nat.zero_add, cell_blk (heap_alloc_new w _)]
    simpa using hu)
theorem row_lit' {α : Type} {enc : α → List Value} {E : TypeId} (w : World) (l : List α) (c : Array Value) (n b : Nat) (hc : c = (flat enc l).toArray) (hn : n = l.length) (hb : b = w.heap.size) : RowAt enc (w.alloc (.cells c E)) (.slice (some ⟨b, 0, none⟩) n n) l := by
  subst hb
  exact row_lit w l c n hc hn
abbrev spans_lit (w : World) (l : List Sp) (c : Array Value) (n : Nat) (hc : c = (flat encS l).toArray) (hn : n = l.length) := row_lit (enc := encS) (E := 45) w l c n hc hn
def manyL (ls : List (List Sp)) : Bool := ls.any fun l => decide (60 < l.length)
theorem manyL_take (ls : List (List Sp)) (j : Nat) (h : j < ls.length) : manyL (ls.take (j + 1)) = (manyL (ls.take j) || decide (60 < ls[j].length)) := by
  rw [List.take_succ_eq_append_getElem h]
  simp only [manyL, List.any_append, List.any_cons, List.any_nil, Bool.or_false]
/-- two slices in a literal -/
theorem parts_lit (w : World) (va vb : Value) (a b : List Sp) (ha : SpansAt w va a) (hb : SpansAt w vb b) : PartsAt (w.alloc (.cells #[va, vb] 30)) (.slice (some ⟨w.heap.size, 0, none⟩) 2 2) [va, vb] [a, b] :=
  have hm := (Mod.refl [] w).alloc (.cells #[va, vb] 30)
  ⟨row_lit w _ _ _ rfl rfl, rfl, fun j h1 h2 => match j, h1, h2 with
    | 0, _, _ => ha.kept0 hm
    | 1, _, _ => hb.kept0 hm⟩
theorem known_of : IsOf [(5, 7), (1, 3), (7, 9)] [(1, 3), (5, 9)] := ⟨by simp [Right], fun d => by simp [In]; omega⟩
theorem known_less : IsBoth (fun x y => x && !y) [(1, 9)] [(3, 5)] [(1, 3), (5, 9)] := ⟨by simp [Right], fun d => by simp [In, inB]; omega⟩
theorem known_one : IsOf [(1, 3)] [(1, 3)] := ⟨by simp [Right], fun d => by simp [In]; omega⟩
theorem known_wide : IsOf [(1, 7)] [(1, 7)] := ⟨by simp [Right], fun d => by simp [In]; omega⟩
theorem IsOf.only {l a b : List Sp} (h : IsOf l a) (k : IsOf l b) : a = b := h.one k fun _ _ _ => Iff.rfl
theorem IsBoth.only {op : Bool → Bool → Bool} {a b l m : List Sp} (h : IsBoth op a b l) (k : IsBoth op a b m) : l = m := h.one k fun _ _ _ => rfl
end Go.Proofs.YtefaihockgebeaaGreat

/- Headers of slices, as they lie in rows. -/
import Derived.Test.YtngglpekdjhbdaaRow1
namespace Go.Proofs.Ytngglpekdjhbdaa
open Go.RowKit Go.ChangeMaps Go.Deep
set_option linter.unusedSimpArgs false
set_option linter.unusedVariables false

/-- a slice, told by its parts -/
structure SlH where
  a : Option Addr
  n : Nat
  c : Nat
def SlH.val (h : SlH) : Value := .slice h.a h.n h.c
def encH (h : SlH) : List Value := [.slice h.a h.n h.c]
theorem encH_len (x : SlH) : (encH x).length = 1 := rfl
theorem encH_one (x : SlH) : ∀ v ∈ encH x, v.oneCell' = true := by intro v hv; simp [encH] at hv; subst hv; rfl
theorem RowAt.head {α : Type} {enc : α → List Value} {w : World} {v : Value} {l : List α} (h : RowAt enc w v l) : ∃ x : SlH, v = x.val ∧ x.n = l.length := by
  obtain ⟨a, c, e⟩ := h.form
  exact ⟨⟨a, l.length, c⟩, e, rfl⟩
theorem OwnR.at_ {α : Type} {enc : α → List Value} {k : Nat} {E : TypeId} {w : World} {base : Nat} {v : Value} {l : List α} (h : OwnR enc k E w base v l) {p : Nat} {x : α} (hp : l[p]? = some x) : ∃ g cap, v = .slice (some ⟨g, 0, none⟩) l.length cap ∧ g < w.heap.size ∧ l.length ≤ cap := by
  rcases h.form with ⟨_, rfl⟩ | ⟨g, cap, h1, h2, h3, h4⟩
  · simp at hp
  · exact ⟨g, cap, h1, h3, h4⟩
theorem ownsRow_cells {α : Type} {enc : α → List Value} {k : Nat} {E : TypeId} {w : World} {base : Nat} {v : Value} {l : List α} (h : OwnR enc k E w base v l) {b : Nat} (hb : v.ownBlock = some b) : ∃ c, w.heap[b]? = some (.cells c E (0, 0)) := by
  rcases h.2 with ⟨e, _⟩ | ⟨g, cap, cur, e, _, hg, _⟩
  · rw [e] at hb; simp [Value.ownBlock] at hb
  · rw [e] at hb
    simp [Value.ownBlock] at hb
    subst hb
    exact ⟨_, hg⟩
theorem own_ne {α : Type} {enc : α → List Value} {k : Nat} {E E' : TypeId} {w : World} {base : Nat} {v : Value} {l : List α} (h : OwnR enc k E w base v l) {b : Nat} {c : Array Value} {f : Nat × Nat} (hb : w.heap[b]? = some (.cells c E' f)) (hE : E ≠ E') : ∀ j, v.ownBlock = some j → j ≠ b := fun j hj e => by
  subst e
  obtain ⟨c', h1⟩ := ownsRow_cells h hj
  rw [h1] at hb
  cases hb
  exact hE rfl
theorem own_ne2 {α β : Type} {enc : α → List Value} {enc' : β → List Value} {k k' : Nat} {E E' : TypeId} {w : World} {base base' : Nat} {v v' : Value} {l : List α} {l' : List β} (h : OwnR enc k E w base v l) (h' : OwnR enc' k' E' w base' v' l') (hE : E ≠ E') : ∀ j, v.ownBlock = some j → j ∉ blk v' := fun j hj hm => by
  rw [mem_blk] at hm
  obtain ⟨c', h1⟩ := ownsRow_cells h' hm
  exact own_ne h h1 hE j hj rfl
end Go.Proofs.Ytngglpekdjhbdaa

/- A region that draws its order and has two operations that write, not ordered among themselves: one plan for either order. -/
import Derived.Test.YtngglpekdjhbdaaRegF
namespace Go.Proofs.Ytngglpekdjhbdaa
set_option linter.unusedSimpArgs false
set_option linter.unusedVariables false

/-- k waits for i, too -/
def waits (l : List Oper) (k i : Nat) : List Oper := l.modify k fun o => { o with after := o.after.push { on := i, ground := .data } }
theorem waits_length (l : List Oper) (k i : Nat) : (waits l k i).length = l.length := by simp [waits]
theorem waits_get (l : List Oper) (k i j : Nat) : (waits l k i)[j]? = (l[j]?).map fun o => if k = j then { o with after := o.after.push { on := i, ground := .data } } else o := by
  unfold waits
  rw [List.getElem?_modify]
  cases l[j]? with
  | none => rfl
  | some o =>
    simp only [Option.map_some, Option.map_eq_map]
theorem waits_yielded (l : List Oper) (k i : Nat) (tmps : Array Value) : yielded (waits l k i).toArray tmps = yielded l.toArray tmps := by
  funext j
  unfold yielded
  have e : ((waits l k i).toArray[j]?).bind (·.dst) = (l.toArray[j]?).bind (·.dst) := by
    simp only [List.getElem?_toArray, waits_get]
    cases l[j]? with
    | none => rfl
    | some o =>
      simp only [Option.map_some, Option.bind_some]
      split <;> rfl
  rw [e]
section
variable {P : Program} {l : List Oper} {Q : Exit → Act → World → Prop}
theorem waits_wpOp {k i j : Nat} {K : Act → World → Prop} {a : Act} {w : World} (h : wpOp P (waits l k i).toArray Q j K a w) : wpOp P l.toArray Q j K a w := by
  unfold wpOp at h ⊢
  simp only [List.getElem?_toArray, waits_get, waits_yielded] at h ⊢
  cases hj : l[j]? with
  | none => rw [hj] at h; exact h
  | some o =>
    rw [hj] at h
    simp only [Option.map_some] at h ⊢
    by_cases e : k = j
    · rw [if_pos e] at h
      exact h
    · rw [if_neg e] at h
      exact h
theorem waits_wpOps {k i : Nat} : ∀ (L : List Nat) {a : Act} {w : World}, wpOps P (waits l k i).toArray Q L a w → wpOps P l.toArray Q L a w
  | [], a, w, h => h
  | j :: L, a, w, h => by
    rw [wpOps_cons] at h ⊢
    exact waits_wpOp (wpOp_mono (fun a w => waits_wpOps L) h)
/-- An order that may be drawn. -/
def PathF (l : List Oper) : Nat → Array Bool → List Nat → Prop
  | 0, _, L => L = []
  | _ + 1, listed, [] => Region.ready .any l.toArray listed = []
  | f + 1, listed, j :: L => j ∈ Region.ready .any l.toArray listed ∧ PathF l f (listed.setIfInBounds j true) L
theorem wpAny_path : ∀ (f : Nat) (listed : Array Bool) (L : List Nat) (a : Act) (w : World), wpAny P .any l.toArray Q f listed a w → PathF l f listed L → wpOps P l.toArray Q L a w
  | 0, listed, L, a, w, h, hp => by
    have : L = [] := hp
    subst this
    exact h.2
  | f + 1, listed, [], a, w, h, hp => h.1 hp
  | f + 1, listed, j :: L, a, w, h, hp => by
    rw [wpOps_cons]
    exact wpOp_mono (fun a w h' => wpAny_path f _ L a w h' hp.2) (h.2 j hp.1)
theorem path_lin : ∀ (f t : Nat) (listed : Array Bool), PathF l f listed (Region.linearise.go .any l.toArray f t listed [])
  | 0, t, listed => by simp [PathF, Region.linearise.go]
  | f + 1, t, listed => by
    simp only [Region.linearise.go]
    change PathF l (f + 1) listed (match (Region.ready .any l.toArray listed)[t % (Region.ready .any l.toArray listed).length]? with
      | some i => Region.linearise.go .any l.toArray f (t / (Region.ready .any l.toArray listed).length) (listed.setIfInBounds i true) [i]
      | none => [].reverse)
    cases hi : (Region.ready .any l.toArray listed)[t % (Region.ready .any l.toArray listed).length]? with
    | none =>
      have hnil : Region.ready .any l.toArray listed = [] := by
        cases hr : Region.ready .any l.toArray listed with
        | nil => rfl
        | cons x xs =>
          rw [hr] at hi
          have hlt : t % (x :: xs).length < (x :: xs).length := Nat.mod_lt _ (by simp)
          simp at hi
          simp at hlt
          omega
      exact hnil
    | some i =>
      simp only []
      rw [linearise_go_acc, List.reverse_singleton, List.singleton_append]
      exact ⟨List.mem_of_getElem? hi, path_lin f _ _⟩
theorem ready_waits {k i : Nat} {listed : Array Bool} {j : Nat} (h : j ∈ Region.ready .any l.toArray listed) (hj : j ≠ k ∨ listed.getD i false = true) : j ∈ Region.ready .any (waits l k i).toArray listed := by
  obtain ⟨h1, o, ho, h2⟩ := mem_ready.1 h
  have ho' : l[j]? = some o := by simpa using ho
  by_cases e : k = j
  · refine mem_ready.2 ⟨h1, { o with after := o.after.push { on := i, ground := .data } }, by simp [waits_get, ho', e], ?_⟩
    intro e' he' hb
    rcases Array.mem_push.1 he' with he' | rfl
    · exact h2 e' he' hb
    · rcases hj with hj | hj
      · exact absurd e.symm hj
      · exact hj
  · exact mem_ready.2 ⟨h1, o, by simp [waits_get, ho', e], h2⟩
theorem ready_of_waits {k i : Nat} {listed : Array Bool} {j : Nat} (h : j ∈ Region.ready .any (waits l k i).toArray listed) : j ∈ Region.ready .any l.toArray listed := by
  obtain ⟨h1, o, ho, h2⟩ := mem_ready.1 h
  have ho' : (waits l k i)[j]? = some o := by simpa using ho
  rw [waits_get] at ho'
  cases hq : l[j]? with
  | none => rw [hq] at ho'; cases ho'
  | some q =>
    rw [hq] at ho'
    simp only [Option.map_some, Option.some.injEq] at ho'
    refine mem_ready.2 ⟨h1, q, by simp [hq], fun e he hb => h2 e ?_ hb⟩
    rw [← ho']
    split
    · exact Array.mem_push.2 (.inl he)
    · exact he
def Before (i k : Nat) (L : List Nat) : Prop := ∀ p q, L = p ++ k :: q → i ∈ p
theorem before_or {i k : Nat} (hik : i ≠ k) : ∀ L : List Nat, Before i k L ∨ Before k i L
  | [] => .inl fun p q h => by simp at h
  | j :: L => by
    by_cases hi : j = i
    · refine .inl fun p q h => ?_
      cases p with
      | nil => simp at h; exact absurd (hi.symm.trans h.1) hik
      | cons x p => simp at h; simp [← h.1, hi]
    · by_cases hk : j = k
      · refine .inr fun p q h => ?_
        cases p with
        | nil => simp at h; exact absurd (hk.symm.trans h.1) hik.symm
        | cons x p => simp at h; simp [← h.1, hk]
      · rcases before_or hik L with h | h
        · refine .inl fun p q e => ?_
          cases p with
          | nil => simp at e; exact absurd e.1 hk
          | cons x p => simp at e; exact List.mem_cons_of_mem _ (h p q e.2)
        · refine .inr fun p q e => ?_
          cases p with
          | nil => simp at e; exact absurd e.1 hi
          | cons x p => simp at e; exact List.mem_cons_of_mem _ (h p q e.2)
theorem path_waits {k i : Nat} : ∀ (f : Nat) (listed : Array Bool) (L : List Nat), listed.size = l.length → (listed.getD i false = true ∨ Before i k L) → PathF l f listed L → PathF (waits l k i) f listed L
  | 0, listed, L, _, _, h => h
  | f + 1, listed, [], _, _, h => by
    have h' : Region.ready .any l.toArray listed = [] := h
    show Region.ready .any (waits l k i).toArray listed = []
    apply List.eq_nil_iff_forall_not_mem.2
    intro j hj
    have := ready_of_waits hj
    rw [h'] at this
    cases this
  | f + 1, listed, j :: L, hs, hb, h => by
    obtain ⟨h1, h2⟩ := h
    have hj : j < l.length := by
      obtain ⟨_, o, ho, _⟩ := mem_ready.1 h1
      have := (List.getElem?_eq_some_iff.1 (by simpa using ho : l[j]? = some o)).1
      exact this
    refine ⟨ready_waits h1 ?_, path_waits f _ L (by simpa using hs) ?_ h2⟩
    · rcases hb with hb | hb
      · exact .inr hb
      · left
        rintro rfl
        have := hb [] L rfl
        cases this
    · rcases hb with hb | hb
      · exact .inl (getD_set_true hb)
      · by_cases e : j = i
        · left
          subst e
          simp [hs, hj]
        · right
          intro p q hL
          have := hb (j :: p) q (by rw [hL]; rfl)
          rcases List.mem_cons.1 this with h | h
          · exact absurd h.symm e
          · exact h
/-- Whatever order is drawn. -/
def Sched (P : Program) (l : List Oper) (Q : Exit → Act → World → Prop) (a : Act) (w : World) : Prop := ∀ L, PathF l l.length (Array.replicate l.length false) L → wpOps P l.toArray Q L a w
theorem sched_either (i k : Nat) (hik : i ≠ k) {a : Act} {w : World} (h1 : Sched P (waits l k i) Q a w) (h2 : Sched P (waits l i k) Q a w) : Sched P l Q a w := fun L hL => by
  rcases before_or hik L with hb | hb
  · exact waits_wpOps L (h1 L (by rw [waits_length]; exact path_waits _ _ L (by simp) (.inr hb) hL))
  · exact waits_wpOps L (h2 L (by rw [waits_length]; exact path_waits _ _ L (by simp) (.inr hb) hL))
theorem sched_plan (segs : List (List Nat × Nat × List Nat)) (last : List Nat) {a : Act} {w : World} (hok : planOk P l segs last = true) (h : wpSegs P l (fun a w => Q .normal a w) last segs a w) : Sched P l Q a w := fun L hL => by
  refine wpAny_path _ _ L a w ?_ hL
  have F := facts_of hok
  obtain ⟨b, pre, todo, hord, hall, hsb, hst, hpx⟩ := advance F segs [] a w rfl (fun s hs => hs) h
  have hf : ∀ i, (Array.replicate l.length false).getD i false = false := fun i => by
    rw [Array.getD_eq_getD_getElem?, Array.getElem?_replicate]; split <;> rfl
  refine wpAny_of_inv F _ _ _ _ pre todo b (by rw [cnt_new _ _ (by simp)]; simp) ⟨by simp, ?_, hord.symm, fun i _ => hf i, fun i hi _ => hall i hi, hsb.defers.symm, hsb.size.symm, ?_, hst, fun k hk hkx => absurd hkx (hpx k hk)⟩
  · intro j o _ hj
    rw [hf j] at hj
    cases hj
  · intro s hs
    refine (hsb.slot s fun hmem => ?_).symm
    obtain ⟨k, hk, e⟩ := List.mem_map.1 hmem
    exact hs k hk (hf k) e
theorem wp_sched {id : Nat} {a : Act} {w : World} (hm : P.follows .mixedOrders = true) (h : Sched P l Q a w.drew) : (Code.region id l.toArray true).wp P Q a w :=
  wp_region_draw fun t => by
    simp only [Region.schedule, hm, Bool.true_or, if_true]
    refine h _ ?_
    have := path_lin (l := l) l.toArray.size t (Array.replicate l.toArray.size false)
    simpa [Region.linearise] using this
end
end Go.Proofs.Ytngglpekdjhbdaa

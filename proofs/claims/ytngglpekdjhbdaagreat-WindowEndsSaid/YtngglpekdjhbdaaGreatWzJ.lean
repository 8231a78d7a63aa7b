/- Layer 8: how two items are ordered. -/
import Derived.Test.YtngglpekdjhbdaaGreatWzI
import Derived.Test.YtngglpekdjhbdaaGreatProg
import Derived.Test.YtngglpekdjhbdaaGreatWzC
import Derived.Test.YtngglpekdjhbdaaGreatWzD
import Derived.Laws.MakeOwn
import Derived.RangeFuncOwn
import Derived.Test.YtngglpekdjhbdaaGreatWzF
namespace Go.Proofs.YtngglpekdjhbdaaGreat
set_option linter.unusedSimpArgs false
set_option linter.unusedVariables false

/-- k waits for i, too -/
def waits (l : List Oper) (k i : Nat) : List Oper := l.modify k fun o => { o with after := o.after.push { on := i, ground := .data } }
theorem waits_length (l : List Oper) (k i : Nat) : (waits l k i).length = l.length := by simp [waits]
theorem waits_get (l : List Oper) (k i j : Nat) : (waits l k i)[j]? = (l[j]?).map fun o => if k = j then { o with after := o.after.push { on := i, ground := .data } } else o := by
  unfold waits
  rw [List.getElem?_modify]
  cases l[j]? with
  | none => rfl
  | some o =>
    simp only [Option.map_some, Option.map_eq_map]
theorem waits_yielded (l : List Oper) (k i : Nat) (tmps : Array Value) : yielded (waits l k i).toArray tmps = yielded l.toArray tmps := by
  funext j
  unfold yielded
  have e : ((waits l k i).toArray[j]?).bind (·.dst) = (l.toArray[j]?).bind (·.dst) := by
    simp only [List.getElem?_toArray, waits_get]
    cases l[j]? with
    | none => rfl
    | some o =>
      simp only [Option.map_some, Option.bind_some]
      split <;> rfl
  rw [e]
section
variable {P : Program} {l : List Oper} {Q : Exit → Act → World → Prop}
theorem waits_wpOp {k i j : Nat} {K : Act → World → Prop} {a : Act} {w : World} (h : wpOp P (waits l k i).toArray Q j K a w) : wpOp P l.toArray Q j K a w := by
  unfold wpOp at h ⊢
  simp only [List.getElem?_toArray, waits_get, waits_yielded] at h ⊢
  cases hj : l[j]? with
  | none => rw [hj] at h; exact h
  | some o =>
    rw [hj] at h
    simp only [Option.map_some] at h ⊢
    by_cases e : k = j
    · rw [if_pos e] at h
      exact h
    · rw [if_neg e] at h
      exact h
theorem waits_wpOps {k i : Nat} : ∀ (L : List Nat) {a : Act} {w : World}, wpOps P (waits l k i).toArray Q L a w → wpOps P l.toArray Q L a w
  | [], a, w, h => h
  | j :: L, a, w, h => by
    rw [wpOps_cons] at h ⊢
    exact waits_wpOp (wpOp_mono (fun a w => waits_wpOps L) h)
/-- An order that may be drawn. -/
def PathF (l : List Oper) : Nat → Array Bool → List Nat → Prop
  | 0, _, L => L = []
  | _ + 1, listed, [] => Region.ready .any l.toArray listed = []
  | f + 1, listed, j :: L => j ∈ Region.ready .any l.toArray listed ∧ PathF l f (listed.setIfInBounds j true) L
theorem wpAny_path : ∀ (f : Nat) (listed : Array Bool) (L : List Nat) (a : Act) (w : World), wpAny P .any l.toArray Q f listed a w → PathF l f listed L → wpOps P l.toArray Q L a w
  | 0, listed, L, a, w, h, hp => by
    have : L = [] := hp
    subst this
    exact h.2
  | f + 1, listed, [], a, w, h, hp => h.1 hp
  | f + 1, listed, j :: L, a, w, h, hp => by
    rw [wpOps_cons]
    exact wpOp_mono (fun a w h' => wpAny_path f _ L a w h' hp.2) (h.2 j hp.1)
theorem path_lin : ∀ (f t : Nat) (listed : Array Bool), PathF l f listed (Region.linearise.go .any l.toArray f t listed [])
  | 0, t, listed => by simp [PathF, Region.linearise.go]
  | f + 1, t, listed => by
    simp only [Region.linearise.go]
    change PathF l (f + 1) listed (match (Region.ready .any l.toArray listed)[t % (Region.ready .any l.toArray listed).length]? with
      | some i => Region.linearise.go .any l.toArray f (t / (Region.ready .any l.toArray listed).length) (listed.setIfInBounds i true) [i]
      | none => [].reverse)
    cases hi : (Region.ready .any l.toArray listed)[t % (Region.ready .any l.toArray listed).length]? with
    | none =>
      have hnil : Region.ready .any l.toArray listed = [] := by
        cases hr : Region.ready .any l.toArray listed with
        | nil => rfl
        | cons x xs =>
          rw [hr] at hi
          have hlt : t % (x :: xs).length < (x :: xs).length := Nat.mod_lt _ (by simp)
          simp at hi
          simp at hlt
          omega
      exact hnil
    | some i =>
      simp only []
      rw [linearise_go_acc, List.reverse_singleton, List.singleton_append]
      exact ⟨List.mem_of_getElem? hi, path_lin f _ _⟩
theorem ready_waits {k i : Nat} {listed : Array Bool} {j : Nat} (h : j ∈ Region.ready .any l.toArray listed) (hj : j ≠ k ∨ listed.getD i false = true) : j ∈ Region.ready .any (waits l k i).toArray listed := by
  obtain ⟨h1, o, ho, h2⟩ := mem_ready.1 h
  have ho' : l[j]? = some o := by simpa using ho
  by_cases e : k = j
  · refine mem_ready.2 ⟨h1, { o with after := o.after.push { on := i, ground := .data } }, by simp [waits_get, ho', e], ?_⟩
    intro e' he' hb
    rcases Array.mem_push.1 he' with he' | rfl
    · exact h2 e' he' hb
    · rcases hj with hj | hj
      · exact absurd e.symm hj
      · exact hj
  · exact mem_ready.2 ⟨h1, o, by simp [waits_get, ho', e], h2⟩
theorem ready_of_waits {k i : Nat} {listed : Array Bool} {j : Nat} (h : j ∈ Region.ready .any (waits l k i).toArray listed) : j ∈ Region.ready .any l.toArray listed := by
  obtain ⟨h1, o, ho, h2⟩ := mem_ready.1 h
  have ho' : (waits l k i)[j]? = some o := by simpa using ho
  rw [waits_get] at ho'
  cases hq : l[j]? with
  | none => rw [hq] at ho'; cases ho'
  | some q =>
    rw [hq] at ho'
    simp only [Option.map_some, Option.some.injEq] at ho'
    refine mem_ready.2 ⟨h1, q, by simp [hq], fun e he hb => h2 e ?_ hb⟩
    rw [← ho']
    split
    · exact Array.mem_push.2 (.inl he)
    · exact he
def Before (i k : Nat) (L : List Nat) : Prop := ∀ p q, L = p ++ k :: q → i ∈ p
theorem before_or {i k : Nat} (hik : i ≠ k) : ∀ L : List Nat, Before i k L ∨ Before k i L
  | [] => .inl fun p q h => by simp at h
  | j :: L => by
    by_cases hi : j = i
    · refine .inl fun p q h => ?_
      cases p with
      | nil => simp at h; exact absurd (hi.symm.trans h.1) hik
      | cons x p => simp at h; simp [← h.1, hi]
    · by_cases hk : j = k
      · refine .inr fun p q h => ?_
        cases p with
        | nil => simp at h; exact absurd (hk.symm.trans h.1) hik.symm
        | cons x p => simp at h; simp [← h.1, hk]
      · rcases before_or hik L with h | h
        · refine .inl fun p q e => ?_
          cases p with
          | nil => simp at e; exact absurd e.1 hk
          | cons x p => simp at e; exact List.mem_cons_of_mem _ (h p q e.2)
        · refine .inr fun p q e => ?_
          cases p with
          | nil => simp at e; exact absurd e.1 hi
          | cons x p => simp at e; exact List.mem_cons_of_mem _ (h p q e.2)
theorem path_waits {k i : Nat} : ∀ (f : Nat) (listed : Array Bool) (L : List Nat), listed.size = l.length → (listed.getD i false = true ∨ Before i k L) → PathF l f listed L → PathF (waits l k i) f listed L
  | 0, listed, L, _, _, h => h
  | f + 1, listed, [], _, _, h => by
    have h' : Region.ready .any l.toArray listed = [] := h
    show Region.ready .any (waits l k i).toArray listed = []
    apply List.eq_nil_iff_forall_not_mem.2
    intro j hj
    have := ready_of_waits hj
    rw [h'] at this
    cases this
  | f + 1, listed, j :: L, hs, hb, h => by
    obtain ⟨h1, h2⟩ := h
    have hj : j < l.length := by
      obtain ⟨_, o, ho, _⟩ := mem_ready.1 h1
      have := (List.getElem?_eq_some_iff.1 (by simpa using ho : l[j]? = some o)).1
      exact this
    refine ⟨ready_waits h1 ?_, path_waits f _ L (by simpa using hs) ?_ h2⟩
    · rcases hb with hb | hb
      · exact .inr hb
      · left
        rintro rfl
        have := hb [] L rfl
        cases this
    · rcases hb with hb | hb
      · exact .inl (getD_set_true hb)
      · by_cases e : j = i
        · left
          subst e
          simp [hs, hj]
        · right
          intro p q hL
          have := hb (j :: p) q (by rw [hL]; rfl)
          rcases List.mem_cons.1 this with h | h
          · exact absurd h.symm e
          · exact h
/-- Whatever order is drawn. -/
def Sched (P : Program) (l : List Oper) (Q : Exit → Act → World → Prop) (a : Act) (w : World) : Prop := ∀ L, PathF l l.length (Array.replicate l.length false) L → wpOps P l.toArray Q L a w
theorem sched_either (i k : Nat) (hik : i ≠ k) {a : Act} {w : World} (h1 : Sched P (waits l k i) Q a w) (h2 : Sched P (waits l i k) Q a w) : Sched P l Q a w := fun L hL => by
  rcases before_or hik L with hb | hb
  · exact waits_wpOps L (h1 L (by rw [waits_length]; exact path_waits _ _ L (by simp) (.inr hb) hL))
  · exact waits_wpOps L (h2 L (by rw [waits_length]; exact path_waits _ _ L (by simp) (.inr hb) hL))
theorem sched_plan (segs : List (List Nat × Nat × List Nat)) (last : List Nat) {a : Act} {w : World} (hok : planOk P l segs last = true) (h : wpSegs P l (fun a w => Q .normal a w) last segs a w) : Sched P l Q a w := fun L hL => by
  refine wpAny_path _ _ L a w ?_ hL
  have F := facts_of hok
  obtain ⟨b, pre, todo, hord, hall, hsb, hst, hpx⟩ := advance F segs [] a w rfl (fun s hs => hs) h
  have hf : ∀ i, (Array.replicate l.length false).getD i false = false := fun i => by
    rw [Array.getD_eq_getD_getElem?, Array.getElem?_replicate]; split <;> rfl
  refine wpAny_of_inv F _ _ _ _ pre todo b (by rw [cnt_new _ _ (by simp)]; simp) ⟨by simp, ?_, hord.symm, fun i _ => hf i, fun i hi _ => hall i hi, hsb.defers.symm, hsb.size.symm, ?_, hst, fun k hk hkx => absurd hkx (hpx k hk)⟩
  · intro j o _ hj
    rw [hf j] at hj
    cases hj
  · intro s hs
    refine (hsb.slot s fun hmem => ?_).symm
    obtain ⟨k, hk, e⟩ := List.mem_map.1 hmem
    exact hs k hk (hf k) e
theorem wp_sched {id : Nat} {a : Act} {w : World} (hm : P.follows .mixedOrders = true) (h : Sched P l Q a w.drew) : (Code.region id l.toArray true).wp P Q a w :=
  wp_region_draw fun t => by
    simp only [Region.schedule, hm, Bool.true_or, if_true]
    refine h _ ?_
    have := path_lin (l := l) l.toArray.size t (Array.replicate l.toArray.size false)
    simpa [Region.linearise] using this
end
end Go.Proofs.YtngglpekdjhbdaaGreat
namespace Go.Proofs.YtngglpekdjhbdaaGreat
set_option linter.unusedSimpArgs false
set_option linter.unusedVariables false
section
variable {P : Program} {l : List Oper} {Q : Exit → Act → World → Prop}
theorem opN_waits (k i j : Nat) : ∃ X, opN (waits l k i) j = { opN l j with after := X } := by
  unfold opN
  rw [List.getD_eq_getElem?_getD, List.getD_eq_getElem?_getD, waits_get]
  cases l[j]? with
  | none => exact ⟨(default : Oper).after, rfl⟩
  | some o =>
    simp only [Option.map_some, Option.getD_some]
    split
    · exact ⟨_, rfl⟩
    · exact ⟨o.after, rfl⟩
theorem wpList_waits (k i : Nat) (Q : Exit → Act → World → Prop) : ∀ is : List Nat, wpList P (waits l k i).toArray Q (opsOf (waits l k i) is) = wpList P l.toArray Q (opsOf l is)
  | [] => rfl
  | j :: is => by
    funext a w
    obtain ⟨X, h⟩ := opN_waits (l := l) k i j
    simp only [opsOf, List.map_cons, wpList]
    have ih := wpList_waits k i Q is
    simp only [opsOf] at ih
    rw [ih, h, waits_yielded]
    rfl
theorem again_waits (k i : Nat) (cs : List Nat) (a : Act) (w : World) : Again P (waits l k i) cs a w = Again P l cs a w := by
  unfold Again
  apply propext
  constructor
  · intro h j hj hw
    obtain ⟨X, e⟩ := opN_waits (l := l) k i j
    have := h j hj
    rw [e, waits_yielded] at this
    exact this hw
  · intro h j hj hw
    obtain ⟨X, e⟩ := opN_waits (l := l) k i j
    rw [e, waits_yielded] at hw
    rw [e]
    exact h j hj hw
theorem wpSegs_waits (k i : Nat) (K : Act → World → Prop) (last : List Nat) : ∀ segs : List (List Nat × Nat × List Nat), wpSegs P (waits l k i) K last segs = wpSegs P l K last segs
  | [] => by
    funext a w
    simp only [wpSegs, wpList_waits]
  | (pre, x, cs) :: rest => by
    funext a w
    have h1 := fun Q => wpList_waits (P := P) (l := l) k i Q [x]
    simp only [opsOf, List.map_cons, List.map_nil] at h1
    simp only [wpSegs, wpList_waits, wpSegs_waits k i K last rest, h1, again_waits]
theorem sched_plan1 {k i : Nat} (segs : List (List Nat × Nat × List Nat)) (last : List Nat) {a : Act} {w : World} (hok : planOk P (waits l k i) segs last = true) (h : wpSegs P l (fun a w => Q .normal a w) last segs a w) : Sched P (waits l k i) Q a w :=
  sched_plan segs last hok (by rw [wpSegs_waits]; exact h)
theorem sched_plan2 {k i k2 i2 : Nat} (segs : List (List Nat × Nat × List Nat)) (last : List Nat) {a : Act} {w : World} (hok : planOk P (waits (waits l k i) k2 i2) segs last = true) (h : wpSegs P l (fun a w => Q .normal a w) last segs a w) : Sched P (waits (waits l k i) k2 i2) Q a w :=
  sched_plan segs last hok (by rw [wpSegs_waits, wpSegs_waits]; exact h)
end
end Go.Proofs.YtngglpekdjhbdaaGreat
namespace Go.Proofs.YtngglpekdjhbdaaGreat
open Go.RowKit Go.ChangeMaps Go.Deep
set_option linter.unusedSimpArgs false
set_option linter.unusedVariables false
set_option maxRecDepth 20000

def encI (n : Int) : List Value := [.int .i64 n]
theorem encI_len (x : Int) : (encI x).length = 1 := rfl
theorem encI_one (x : Int) : ∀ v ∈ encI x, v.oneCell' = true := by intro v hv; simp [encI] at hv; subst hv; rfl
theorem elemInt : ElemOk Tryz.prog 41 3 1 8 := .mk' Tryz.underlying41 (by omega) (by kernel_rfl)
abbrev IntsIn (w : World) (v : Value) (l : List Int) : Prop := RowAt encI w v l
abbrev OwnN (w : World) (base : Nat) (v : Value) (l : List Int) : Prop := OwnR encI 1 3 w base v l
section
variable {α : Type} {enc : α → List Value} {k : Nat} {w : World} {v : Value} {l : List α} {P : Program} {t E : TypeId}
theorem RowAt.src (hk : ∀ x, (enc x).length = k) (h1 : ∀ x, ∀ v ∈ enc x, v.oneCell' = true) (h : RowAt enc w v l) (ht : P.underlying t = some (.slice E)) : Src P k t v l.length (flat enc l) w := by
  cases h with
  | nil a cap =>
    cases a with
    | none => exact Src.ofNil w ht cap
    | some a => exact Src.ofSlice w ht a 0 cap [] (by simp) (fun j u hu => by simp at hu) (by simp)
  | at_ b o cap l hc h =>
    exact Src.ofSlice w ht ⟨b, o, none⟩ l.length cap _ (by rw [flat_length hk]) (fun j u hu => by rw [Addr.add_mid]; exact h j u hu) (by
      intro u hu
      obtain ⟨x, _, hx⟩ := List.mem_flatMap.1 hu
      exact h1 x u hx)
theorem OwnR.fresh (w : World) (base : Nat) (hb : base ≤ w.heap.size) : OwnR enc k E (w.alloc (.cells #[] E)) base (.slice (some ⟨w.heap.size, 0, none⟩) 0 0) [] :=
  ⟨by simp [flat], .inr ⟨w.heap.size, 0, #[], rfl, hb, heap_alloc_new w _, Nat.le_refl _, Nat.zero_le _, by simp, by simp [flat]⟩⟩
theorem RowAt.of_none (h : RowAt enc w v l) {n c : Nat} (e : v = .slice none n c) : l = [] := by
  cases h with
  | nil a cap => rfl
  | at_ b o cap l hc h => cases e
end
theorem RowAt.get1 {w : World} {a : Option Addr} {c : Nat} {l : List Int} (h : IntsIn w (.slice a l.length c) l) {i : Nat} (hi : i < l.length) :
    ∃ b o, a = some ⟨b, o, none⟩ ∧ l.length ≤ c ∧ w.cell? ⟨b, o + i, none⟩ = some (.int .i64 l[i]) := by
  obtain ⟨b, o, e, hc, hg⟩ := h.get encI_len hi
  have h0 := hg 0 (.int .i64 l[i]) (by omega) rfl
  exact ⟨b, o, e, hc, by simpa using h0⟩
theorem flat_encI (l : List Int) : flat encI l = l.map (Value.int .i64) := by
  induction l with
  | nil => rfl
  | cons x l ih => rw [flat_cons, ih]; rfl
theorem made_one (u : Value) (n : Nat) : madeCells #[u] n = Array.replicate n u := by
  apply Array.ext
  · simp [madeCells]
  · intro i h1 h2
    simp [madeCells, Nat.mod_one]
theorem run_makeInts (n : Nat) (hn : n ≤ 1000000) (w : World) : (Instr.makeSlice 41 (.int .i64 n) (.int .i64 n)).run Tryz.prog w = .ok (.slice (some ⟨w.heap.size, 0, none⟩) n n) (w.alloc (.cells (Array.replicate n (.int .i64 0)) 3)) := by
  have h5 : (Tryz.prog.info? 3).map (fun i => (i.zero, i.size, i.bytes)) = some (some (.int .i64 0), 1, 8) := by kernel_rfl
  obtain ⟨i0, hi, hz0, hz1, hz2⟩ := info_parts h5
  have h := run_make (P := Tryz.prog) (w := w) 41 3 i0 (.int .i64 0) Tryz.underlying41 hi hz0 .i64 .i64 n n (by omega) (Int.le_refl _) (by rw [hz2]; omega) (by omega)
  rw [hz1, Nat.mul_one] at h
  have e : (Value.int IntKind.i64 0).cells = #[.int .i64 0] := rfl
  rw [e, made_one, Int.toNat_natCast] at h
  exact h
theorem own_zeros (w : World) (n base : Nat) (hb : base ≤ w.heap.size) (hn : n ≤ 1000000) : OwnN (w.alloc (.cells (Array.replicate n (.int .i64 0)) 3)) base (.slice (some ⟨w.heap.size, 0, none⟩) (List.replicate n (0 : Int)).length n) (List.replicate n 0) := by
  refine ⟨flat_length encI_len _, .inr ⟨w.heap.size, n, _, rfl, hb, heap_alloc_new w _, by simp, by unfold maxLen; omega, by simp, ?_⟩⟩
  rw [List.length_replicate, Nat.mul_one, flat_encI]
  simp
theorem Mod.cellD {w w' : World} {a : Addr} {v : Value} (h : Mod [] w w') (hc : w.cell? a = some v) : w'.cell? a = some v := by
  obtain ⟨o, ho, _⟩ := cells_of_cell hc
  rw [← hc]
  exact World.cell?_of_block (h.block _ (lt_of_heap ho) (by simp))
theorem alloc_named2 (w : World) (o : Obj) : ∃ A, w.alloc o = A ∧ A.heap[w.heap.size]? = some o ∧ A.heap.size = w.heap.size + 1 ∧ Mod [] w A :=
  ⟨_, rfl, heap_alloc_new w o, by simp, (Mod.refl [] w).alloc o⟩
theorem OwnR.lens {α : Type} {enc : α → List Value} {k : Nat} {E : TypeId} {w : World} {base : Nat} {v : Value} {l : List α} (h : OwnR enc k E w base v l) : ∃ a c, v = .slice a l.length c := by
  obtain ⟨a, c, e⟩ := h.row.form
  exact ⟨a, c, e⟩
end Go.Proofs.YtngglpekdjhbdaaGreat
namespace Go.Proofs.YtngglpekdjhbdaaGreat
open Go.RowKit Go.ChangeMaps Go.Deep
set_option linter.unusedSimpArgs false
set_option linter.unusedVariables false
set_option maxRecDepth 20000

def encNd (n : Nd) : List Value := [.int .i64 n.x.f, .int .i64 n.x.t, .int .i64 n.x.i, .int .i64 n.l, .int .i64 n.r, .int .i64 n.h, .int .i64 n.t, .bool n.u]
theorem encNd_len (n : Nd) : (encNd n).length = 8 := rfl
theorem encNd_one (n : Nd) : ∀ v ∈ encNd n, v.oneCell' = true := by intro v hv; simp [encNd] at hv; rcases hv with rfl | rfl | rfl | rfl | rfl | rfl | rfl | rfl <;> rfl
/-- A tree in block b. -/
structure TreeAt (w : World) (b : Nat) (nv fv : Value) (ns : List Nd) (fr : List Int) (root many : Int) : Prop where
  blk : w.heap[b]? = some (.cells #[.int .i64 1000000, nv, fv, .int .i64 root, .int .i64 many] 88 (0, 0))
  row : OwnR encNd 8 128 w 0 nv ns
  free : OwnR encI 1 3 w 0 fv fr
  bn : nv.ownBlock ≠ some b
  bf : fv.ownBlock ≠ some b
  nf : ∀ k, nv.ownBlock = some k → fv.ownBlock ≠ some k
/-- one node's cells -/
theorem nd_cells {w : World} {g cap : Nat} {ns : List Nd} (h : OwnR encNd 8 128 w 0 (.slice (some ⟨g, 0, none⟩) ns.length cap) ns) {p : Nat} {n : Nd} (hp : ns[p]? = some n) :
    ∀ j u, (encNd n)[j]? = some u → w.cell? ⟨g, p * 8 + j, none⟩ = some u ∧ w.frozen? ⟨g, p * 8 + j, none⟩ = false := fun j u hu => by
  have hlt := (List.getElem?_eq_some_iff.1 hp).1
  have e : ns[p] = n := (List.getElem?_eq_some_iff.1 hp).2
  have hj : j < 8 := by have := (List.getElem?_eq_some_iff.1 hu).1; rw [encNd_len] at this; exact this
  exact h.cell encNd_len hlt hj (by rw [e]; exact hu)
theorem height_none (b : Nat) (i : Int) (h : i < 0) (v : Value) (w : World) : Calls Tryz.prog 88 #[v, .int .i64 i] w fun e w' => e = .returned (.int .i64 0) ∧ w' = w := by
  go_enter Tryz.func88, Tryz.ntmps88
  go_wp2_with fail
  go_ret
  exact ⟨rfl, rfl⟩
theorem height_at {w : World} {b : Nat} {nv fv : Value} {ns : List Nd} {fr : List Int} {root many : Int} (h : TreeAt w b nv fv ns fr root many) {p : Nat} {n : Nd} (hp : ns[p]? = some n) :
    Calls Tryz.prog 88 #[.pointer (some ⟨b, 0, none⟩), .int .i64 p] w fun e w' => e = .returned (.int .i64 n.h) ∧ w' = w := by
  obtain ⟨g, cap, rfl, hg, hc⟩ := h.row.at_ hp
  have hlt := (List.getElem?_eq_some_iff.1 hp).1
  have c1 := cell_blk h.blk 1
  simp only [List.getElem?_toArray, List.getElem?_cons_succ, List.getElem?_cons_zero] at c1
  have c5 := (nd_cells h.row hp 5 _ rfl).1
  have hp0 : ¬ (p : Int) < 0 := by omega
  clear h hp
  go_enter Tryz.func88, Tryz.ntmps88
  go_wp2_with fail
  go_ret
  exact ⟨rfl, rfl⟩
theorem side_at {w : World} {b : Nat} {nv fv : Value} {ns : List Nd} {fr : List Int} {root many : Int} (h : TreeAt w b nv fv ns fr root many) {p : Nat} {n : Nd} (hp : ns[p]? = some n) (right : Bool) :
    Calls Tryz.prog 78 #[.pointer (some ⟨b, 0, none⟩), .int .i64 p, .bool right] w fun e w' => e = .returned (.int .i64 (sideN ns p right)) ∧ w' = w := by
  have e : sideN ns p right = if right = true then n.r else n.l := by unfold sideN; rw [nodeN_some hp]
  rw [e]
  obtain ⟨g, cap, rfl, hg, hc⟩ := h.row.at_ hp
  have hlt := (List.getElem?_eq_some_iff.1 hp).1
  have c1 := cell_blk h.blk 1
  simp only [List.getElem?_toArray, List.getElem?_cons_succ, List.getElem?_cons_zero] at c1
  have c3 := (nd_cells h.row hp 3 _ rfl).1
  have c4 := (nd_cells h.row hp 4 _ rfl).1
  clear h hp e
  cases right
  · go_enter Tryz.func78, Tryz.ntmps78
    go_wp2_with fail
    go_ret
    exact ⟨rfl, rfl⟩
  · go_enter Tryz.func78, Tryz.ntmps78
    go_wp2_with fail
    go_ret
    exact ⟨rfl, rfl⟩
/-- a node's cell is written -/
theorem TreeAt.set {w : World} {b g cap : Nat} {fv : Value} {ns : List Nd} {fr : List Int} {root many : Int} (h : TreeAt w b (.slice (some ⟨g, 0, none⟩) ns.length cap) fv ns fr root many) {p : Nat} {n m : Nd} (hp : ns[p]? = some n) {j : Nat} {u : Value} (hj : j < 8) (hm : encNd m = (encNd n).set j u) :
    TreeAt (w.setCell ⟨g, p * 8 + j, none⟩ u) b (.slice (some ⟨g, 0, none⟩) (ns.set p m).length cap) fv (ns.set p m) fr root many ∧ Mod [g] w (w.setCell ⟨g, p * 8 + j, none⟩ u) := by
  have hlt := (List.getElem?_eq_some_iff.1 hp).1
  have e : ns[p] = n := (List.getElem?_eq_some_iff.1 hp).2
  have hmod : Mod [g] w (w.setCell ⟨g, p * 8 + j, none⟩ u) := (Mod.refl _ _).setCell (by simp) _
  have hbg : b ≠ g := fun e => h.bn (by simp [Value.ownBlock, e])
  have hrow := h.row.set encNd_len hlt hj (y := m) (by rw [e]; exact hm)
  refine ⟨⟨?_, by rw [List.length_set]; exact hrow, h.free.kept hmod (fun k hk hm => ?_), by simpa [Value.ownBlock] using Ne.symm hbg, h.bf, fun k hk => h.nf k (by simpa [Value.ownBlock] using hk)⟩, hmod⟩
  · rw [List.length_set]
    exact hmod.heap h.blk (by simpa using hbg)
  · rw [List.mem_singleton] at hm
    subst hm
    exact h.nf k (by simp [Value.ownBlock]) hk
theorem hang_at {w : World} {b : Nat} {nv fv : Value} {ns : List Nd} {fr : List Int} {root many : Int} (h : TreeAt w b nv fv ns fr root many) {p : Nat} {n : Nd} (hp : ns[p]? = some n) (right : Bool) (below : Int) :
    Calls Tryz.prog 79 #[.pointer (some ⟨b, 0, none⟩), .int .i64 p, .bool right, .int .i64 below] w fun e w' => e = .returned (.tuple #[]) ∧ TreeAt w' b nv fv (hangN ns p right below) fr root many ∧ Mod (blk nv) w w' := by
  have e : hangN ns p right below = ns.set p (if right = true then { n with r := below } else { n with l := below }) := by unfold hangN; rw [nodeN_some hp]
  rw [e]
  obtain ⟨g, cap, rfl, hg, hc⟩ := h.row.at_ hp
  have hlt := (List.getElem?_eq_some_iff.1 hp).1
  have c1 := cell_blk h.blk 1
  simp only [List.getElem?_toArray, List.getElem?_cons_succ, List.getElem?_cons_zero] at c1
  cases right
  · obtain ⟨c3, f3⟩ := nd_cells h.row hp 3 _ rfl
    have H := Lib.hid (h.set hp (m := { n with l := below }) (j := 3) (u := .int .i64 below) (by omega) rfl)
    rw [List.length_set] at H
    clear h hp e
    go_enter Tryz.func79, Tryz.ntmps79
    go_wp2_with fail
    go_end0
    exact ⟨rfl, H.out.1, by simpa [blk, Value.ownBlock] using H.out.2⟩
  · obtain ⟨c3, f3⟩ := nd_cells h.row hp 4 _ rfl
    have H := Lib.hid (h.set hp (m := { n with r := below }) (j := 4) (u := .int .i64 below) (by omega) rfl)
    rw [List.length_set] at H
    clear h hp e
    go_enter Tryz.func79, Tryz.ntmps79
    go_wp2_with fail
    go_end0
    exact ⟨rfl, H.out.1, by simpa [blk, Value.ownBlock] using H.out.2⟩
end Go.Proofs.YtngglpekdjhbdaaGreat
namespace Go.Proofs.YtngglpekdjhbdaaGreat
open Go.RowKit Go.ChangeMaps Go.Deep
set_option linter.unusedSimpArgs false
set_option linter.unusedVariables false
set_option maxRecDepth 20000

theorem isNaN_any (a : Int) (w : World) : Calls Tryz.prog 75 #[.int .i64 a] w fun e w' => e = .returned (.bool false) ∧ w' = w := by
  have h : (a != a) = false := by simp
  go_enter Tryz.func75, Tryz.ntmps75
  go_wp2_with fail
  go_ret
  exact ⟨by simp, rfl⟩
theorem compare_any (a b : Int) (w : World) : Calls Tryz.prog 86 #[.int .i64 a, .int .i64 b] w fun e w' => e = .returned (.int .i64 (cmpI a b)) ∧ w' = w := by
  unfold cmpI
  by_cases h1 : a < b
  · rw [if_pos h1]
    go_enter Tryz.func86, Tryz.ntmps86
    go_wp2_with fail
    refine (isNaN_any a _).mono ?_
    rintro e w1 ⟨rfl, rfl⟩
    go_wp2_with fail
    refine (isNaN_any b _).mono ?_
    rintro e w1 ⟨rfl, rfl⟩
    go_wp2_with fail
    go_ret
    exact ⟨rfl, rfl⟩
  · rw [if_neg h1]
    by_cases h2 : b < a
    · rw [if_pos h2]
      go_enter Tryz.func86, Tryz.ntmps86
      go_wp2_with fail
      refine (isNaN_any a _).mono ?_
      rintro e w1 ⟨rfl, rfl⟩
      go_wp2_with fail
      refine (isNaN_any b _).mono ?_
      rintro e w1 ⟨rfl, rfl⟩
      go_wp2_with fail
      go_ret
      exact ⟨rfl, rfl⟩
    · rw [if_neg h2]
      go_enter Tryz.func86, Tryz.ntmps86
      go_wp2_with fail
      refine (isNaN_any a _).mono ?_
      rintro e w1 ⟨rfl, rfl⟩
      go_wp2_with fail
      refine (isNaN_any b _).mono ?_
      rintro e w1 ⟨rfl, rfl⟩
      go_wp2_with fail
      go_ret
      exact ⟨rfl, rfl⟩
theorem or3_any {w : World} {g : Nat} {a b c R : Int} (hR : Hid (R = if a ≠ 0 then a else if b ≠ 0 then b else c)) (h0 : w.cell? ⟨g, 0, none⟩ = some (.int .i64 a)) (h1 : w.cell? ⟨g, 1, none⟩ = some (.int .i64 b)) (h2 : w.cell? ⟨g, 2, none⟩ = some (.int .i64 c)) :
    Calls Tryz.prog 85 #[.slice (some ⟨g, 0, none⟩) 3 3] w fun e w' => e = .returned (.int .i64 R) ∧ w' = w := by
  go_enter Tryz.func85, Tryz.ntmps85
  go_wp2_with fail
  go_loopw [8] (fun s8 wj => ∃ k : Nat, k ≤ 3 ∧ s8 = .int .i64 k ∧ wj = w ∧ (0 < k → a = 0) ∧ (1 < k → b = 0) ∧ (2 < k → c = 0)) (fun s8 _ => 3 - (intOf s8).toNat)
  case atStart => exact ⟨0, by omega, rfl, rfl, fun h => by omega, fun h => by omega, fun h => by omega⟩
  case round =>
    obtain ⟨k, hk, rfl, rfl, k0, k1, k2⟩ := hrel
    rcases (show k = 0 ∨ k = 1 ∨ k = 2 ∨ k = 3 by omega) with rfl | rfl | rfl | rfl
    · by_cases ha : a = 0
      · have hq : (a != 0) = false := by simp [ha]
        go_wp2_with fail
        go_roundw
        case rel => exact ⟨1, by omega, by go_num, by first | trivial | rfl, fun _ => ha, fun h => by omega, fun h => by omega⟩
        case measure => simp [intOf]
      · have hq : (a != 0) = true := by simp [ha]
        go_wp2_with fail
        go_ret
        exact ⟨by rw [hR.out, if_pos ha]; rfl, rfl⟩
    · by_cases hb : b = 0
      · have hq : (b != 0) = false := by simp [hb]
        go_wp2_with fail
        go_roundw
        case rel => exact ⟨2, by omega, by go_num, by first | trivial | rfl, fun _ => k0 (by omega), fun _ => hb, fun h => by omega⟩
        case measure => simp [intOf]
      · have hq : (b != 0) = true := by simp [hb]
        go_wp2_with fail
        go_ret
        exact ⟨by rw [hR.out, if_neg (by simpa using k0 (by omega)), if_pos hb]; rfl, rfl⟩
    · by_cases hc : c = 0
      · have hq : (c != 0) = false := by simp [hc]
        go_wp2_with fail
        go_roundw
        case rel => exact ⟨3, by omega, by go_num, by first | trivial | rfl, fun _ => k0 (by omega), fun _ => k1 (by omega), fun _ => hc⟩
        case measure => simp [intOf]
      · have hq : (c != 0) = true := by simp [hc]
        go_wp2_with fail
        go_ret
        exact ⟨by rw [hR.out, if_neg (by simpa using k0 (by omega)), if_neg (by simpa using k1 (by omega))]; rfl, rfl⟩
    · go_wp2_with fail
      go_ret
      exact ⟨by rw [hR.out, if_neg (by simpa using k0 (by omega)), if_neg (by simpa using k1 (by omega)), k2 (by omega)]; rfl, rfl⟩
def itV (x : It) : Value := .agg #[.int .i64 x.f, .int .i64 x.t, .int .i64 x.i]
theorem order_any (x y : It) (w : World) : Calls Tryz.prog 77 #[itV x, itV y] w fun e w' => e = .returned (.int .i64 (ordI x y)) ∧ Mod [] w w' := by
  obtain ⟨a, b, c⟩ := x
  obtain ⟨d, e, f⟩ := y
  unfold itV
  dsimp only
  have HM := Lib.hid (((((Mod.refl [] w).alloc (.cells #[.int .i64 a, .int .i64 b, .int .i64 c] 70)).alloc (.cells #[.int .i64 d, .int .i64 e, .int .i64 f] 70)).drew).alloc (.cells #[.int .i64 (cmpI a d), .int .i64 (cmpI b e), .int .i64 (cmpI c f)] 3))
  have HR : Hid (ordI ⟨a, b, c⟩ ⟨d, e, f⟩ = if cmpI a d ≠ 0 then cmpI a d else if cmpI b e ≠ 0 then cmpI b e else cmpI c f) := Lib.hid rfl
  generalize ordI ⟨a, b, c⟩ ⟨d, e, f⟩ = R at HR ⊢
  have hb := heap_alloc_new (((w.alloc (.cells #[.int .i64 a, .int .i64 b, .int .i64 c] 70)).alloc (.cells #[.int .i64 d, .int .i64 e, .int .i64 f] 70)).drew) (.cells #[.int .i64 (cmpI a d), .int .i64 (cmpI b e), .int .i64 (cmpI c f)] 3)
  rw [show (((w.alloc (.cells #[.int .i64 a, .int .i64 b, .int .i64 c] 70)).alloc (.cells #[.int .i64 d, .int .i64 e, .int .i64 f] 70)).drew).heap.size = w.heap.size + 2 from by
    show ((w.alloc (.cells #[.int .i64 a, .int .i64 b, .int .i64 c] 70)).alloc (.cells #[.int .i64 d, .int .i64 e, .int .i64 f] 70)).heap.size = _
    simp] at hb
  have HO := Lib.hid (or3_any HR (w := (((w.alloc (.cells #[.int .i64 a, .int .i64 b, .int .i64 c] 70)).alloc (.cells #[.int .i64 d, .int .i64 e, .int .i64 f] 70)).drew).alloc (.cells #[.int .i64 (cmpI a d), .int .i64 (cmpI b e), .int .i64 (cmpI c f)] 3)) (g := w.heap.size + 2) (a := cmpI a d) (b := cmpI b e) (c := cmpI c f) (by rw [cell_blk hb 0]; rfl) (by rw [cell_blk hb 1]; rfl) (by rw [cell_blk hb 2]; rfl))
  clear hb
  go_enter Tryz.func77, Tryz.ntmps77
  go_wp2_with fail
  refine wp_plan [([0, 2, 5, 7, 10, 12, 1, 3, 6, 8, 11, 13], 4, [5, 7, 10, 12, 6, 8, 11, 13]), ([], 9, [10, 12, 11, 13]), ([], 14, []), ([], 15, []), ([], 16, [])] [17] (by kernel_rfl) (by kernel_rfl) ?_
  simp only [wpSegs, opsOf, List.map_cons, List.map_nil, opN, List.getD_cons_zero, List.getD_cons_succ]
  go_wp2_with fail
  refine ⟨by first | trivial | rfl, ?_⟩
  go_wp2_with fail
  refine (compare_any a d _).mono ?_
  rintro e1 w1 ⟨rfl, rfl⟩
  go_wp2_with fail
  refine ⟨?agA, ?_⟩
  case agA =>
    intro i hi hw
    simp only [List.mem_cons, List.not_mem_nil, or_false] at hi
    rcases hi with rfl | rfl | rfl | rfl | rfl | rfl | rfl | rfl
    all_goals (simp only [opN, List.getD_cons_zero, List.getD_cons_succ, slotOf]; go_simp)
  go_wp2_with fail
  refine ⟨by first | trivial | rfl, ?_⟩
  go_wp2_with fail
  refine (compare_any b e _).mono ?_
  rintro e1 w1 ⟨rfl, rfl⟩
  go_wp2_with fail
  refine ⟨?agB, ?_⟩
  case agB =>
    intro i hi hw
    simp only [List.mem_cons, List.not_mem_nil, or_false] at hi
    rcases hi with rfl | rfl | rfl | rfl
    all_goals (simp only [opN, List.getD_cons_zero, List.getD_cons_succ, slotOf]; go_simp)
  go_wp2_with fail
  refine ⟨by first | trivial | rfl, ?_⟩
  go_wp2_with fail
  refine (compare_any c f _).mono ?_
  rintro e1 w1 ⟨rfl, rfl⟩
  go_wp2_with fail
  refine ⟨again_nil, ?_⟩
  go_wp2_with fail
  refine ⟨by first | trivial | rfl, ?_⟩
  go_wp2_with fail
  refine ⟨again_nil, ?_⟩
  go_wp2_with fail
  refine ⟨by first | trivial | rfl, ?_⟩
  go_wp2_with fail
  refine HO.out.mono ?_
  rintro e1 w1 ⟨rfl, rfl⟩
  go_wp2_with fail
  refine ⟨again_nil, ?_⟩
  go_wp2_with fail
  refine ⟨by first | trivial | rfl, ?_⟩
  go_wp2_with fail
  go_ret
  exact ⟨rfl, HM.out⟩
end Go.Proofs.YtngglpekdjhbdaaGreat

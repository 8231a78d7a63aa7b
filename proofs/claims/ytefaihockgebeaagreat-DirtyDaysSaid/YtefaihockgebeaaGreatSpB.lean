/- Spans, plain: two sets by their ends; widened ones; how many days. No program is named here. -/
import Derived.Test.YtefaihockgebeaaGreatSpA
namespace Go.Proofs.YtefaihockgebeaaGreat
set_option linter.unusedSimpArgs false
set_option linter.unusedVariables false

def inB (l : List Sp) (d : Int) : Bool := l.any fun x => decide (x.1 ≤ d) && decide (d < x.2)
theorem inB_iff {l : List Sp} {d : Int} : inB l d = true ↔ In l d := by simp [inB, In]
theorem inB_false {l : List Sp} {d : Int} : inB l d = false ↔ ¬ In l d := by rw [← inB_iff]; simp
/-- neighbours -/
def pairs : List Int → List Sp
  | x :: y :: l => (x, y) :: pairs (y :: l)
  | _ => []
def Asc (l : List Int) : Prop := l.Pairwise (· < ·)
theorem pairs_length : ∀ l : List Int, (pairs l).length = l.length - 1
  | [] => rfl
  | [_] => rfl
  | x :: y :: l => by simp only [pairs, List.length_cons, pairs_length (y :: l)]; omega
theorem pairs_get : ∀ (l : List Int) (i : Nat) (h : i + 1 < l.length), (pairs l)[i]? = some (l[i], l[i + 1])
  | [], i, h => by simp at h
  | [_], i, h => by simp at h
  | x :: y :: l, 0, h => rfl
  | x :: y :: l, i + 1, h => by
    have := pairs_get (y :: l) i (by simpa using h)
    simpa [pairs] using this
theorem pairs_lt : ∀ {E : List Int}, Asc E → ∀ {p : Sp}, p ∈ pairs E → p.1 < p.2 ∧ p.1 ∈ E ∧ p.2 ∈ E
  | [], _, p, hp => by cases hp
  | [_], _, p, hp => by cases hp
  | x :: y :: l, h, p, hp => by
    simp only [pairs, List.mem_cons] at hp
    have hc := List.pairwise_cons.1 h
    rcases hp with rfl | hp
    · exact ⟨hc.1 y (by simp), by simp, by simp⟩
    · have := pairs_lt hc.2 hp
      exact ⟨this.1, by simp [this.2.1], by simp [this.2.2]⟩
theorem pairs_between : ∀ {E : List Int}, Asc E → ∀ {p : Sp}, p ∈ pairs E → ∀ z ∈ E, z ≤ p.1 ∨ p.2 ≤ z
  | [], _, p, hp, _, _ => by cases hp
  | [_], _, p, hp, _, _ => by cases hp
  | x :: y :: l, h, p, hp, z, hz => by
    simp only [pairs, List.mem_cons] at hp
    have hc := List.pairwise_cons.1 h
    have hc2 := List.pairwise_cons.1 hc.2
    rcases List.mem_cons.1 hz with rfl | hz
    · rcases hp with rfl | hp
      · left; exact Int.le_refl _
      · have h1 := pairs_lt hc.2 hp
        have := hc.1 p.1 h1.2.1
        left; omega
    · rcases hp with rfl | hp
      · right
        rcases List.mem_cons.1 hz with rfl | hz
        · exact Int.le_refl _
        · have := hc2.1 z hz; show y ≤ z; omega
      · exact pairs_between hc.2 hp z hz
theorem pairs_cover : ∀ {E : List Int} {d e0 e1 : Int}, Asc E → e0 ∈ E → e1 ∈ E → e0 ≤ d → d < e1 → ∃ p ∈ pairs E, p.1 ≤ d ∧ d < p.2
  | [], _, _, _, _, h, _, _, _ => by cases h
  | [x], d, e0, e1, _, h0, h1, h2, h3 => by
    simp at h0 h1; omega
  | x :: y :: l, d, e0, e1, h, h0, h1, h2, h3 => by
    have hc := List.pairwise_cons.1 h
    by_cases hd : d < y
    · refine ⟨(x, y), by simp [pairs], ?_, hd⟩
      rcases List.mem_cons.1 h0 with rfl | h0
      · exact h2
      · rcases List.mem_cons.1 h0 with rfl | h0
        · omega
        · have := (List.pairwise_cons.1 hc.2).1 _ h0; omega
    · have h1' : e1 ∈ y :: l := by
        rcases List.mem_cons.1 h1 with rfl | h1
        · have := hc.1 y (by simp); omega
        · exact h1
      obtain ⟨p, hp, k⟩ := pairs_cover hc.2 (show y ∈ y :: l by simp) h1' (by omega) h3
      exact ⟨p, by simp [pairs, hp], k⟩
theorem pieces {E : List Int} {p : Int → Bool} (hE : Asc E) (hc : ∀ x ∈ pairs E, ∀ d, x.1 ≤ d → d < x.2 → p d = p x.1) (hs : ∀ d, p d = true → ∃ e0 ∈ E, ∃ e1 ∈ E, e0 ≤ d ∧ d < e1) (d : Int) :
    In ((pairs E).filter fun x => p x.1) d ↔ p d = true := by
  constructor
  · rintro ⟨x, hx, h1, h2⟩
    rw [List.mem_filter] at hx
    rw [hc x hx.1 d h1 h2]
    exact hx.2
  · intro h
    obtain ⟨e0, h0, e1, h1, k0, k1⟩ := hs d h
    obtain ⟨x, hx, q0, q1⟩ := pairs_cover hE h0 h1 k0 k1
    exact ⟨x, List.mem_filter.2 ⟨hx, by rw [← hc x hx d q0 q1]; exact h⟩, q0, q1⟩
/-- all ends of some spans -/
def endsL (l : List Sp) : List Int := l.flatMap fun x => [x.1, x.2]
theorem mem_endsL {l : List Sp} {z : Int} : z ∈ endsL l ↔ ∃ x ∈ l, z = x.1 ∨ z = x.2 := by simp [endsL]
/-- Between neighbours of all ends nothing changes. -/
theorem in_const {E : List Int} (hE : Asc E) {A : List Sp} (hA : ∀ z ∈ endsL A, z ∈ E) {x : Sp} (hx : x ∈ pairs E) {d : Int} (h1 : x.1 ≤ d) (h2 : d < x.2) : inB A d = inB A x.1 := by
  rw [Bool.eq_iff_iff, inB_iff, inB_iff]
  constructor
  · rintro ⟨y, hy, a, b⟩
    refine ⟨y, hy, ?_, by omega⟩
    rcases pairs_between hE hx y.1 (hA _ (mem_endsL.2 ⟨y, hy, .inl rfl⟩)) with k | k <;> omega
  · rintro ⟨y, hy, a, b⟩
    refine ⟨y, hy, by omega, ?_⟩
    rcases pairs_between hE hx y.2 (hA _ (mem_endsL.2 ⟨y, hy, .inr rfl⟩)) with k | k <;> omega
theorem both_days {E : List Int} (hE : Asc E) {A B : List Sp} (hA : ∀ z ∈ endsL A, z ∈ E) (hB : ∀ z ∈ endsL B, z ∈ E) {op : Bool → Bool → Bool} (h0 : op false false = false) (d : Int) :
    In ((pairs E).filter fun x => op (inB A x.1) (inB B x.1)) d ↔ op (inB A d) (inB B d) = true := by
  refine pieces (p := fun d => op (inB A d) (inB B d)) hE (fun x hx d h1 h2 => by rw [in_const hE hA hx h1 h2, in_const hE hB hx h1 h2]) (fun d hd => ?_) d
  have hAB : In A d ∨ In B d := by
    apply Classical.byContradiction
    intro hn
    have a1 : inB A d = false := inB_false.2 fun k => hn (.inl k)
    have a2 : inB B d = false := inB_false.2 fun k => hn (.inr k)
    simp only [a1, a2, h0] at hd
    cases hd
  rcases hAB with ⟨y, hy, k⟩ | ⟨y, hy, k⟩
  · exact ⟨_, hA _ (mem_endsL.2 ⟨y, hy, .inl rfl⟩), _, hA _ (mem_endsL.2 ⟨y, hy, .inr rfl⟩), k⟩
  · exact ⟨_, hB _ (mem_endsL.2 ⟨y, hy, .inl rfl⟩), _, hB _ (mem_endsL.2 ⟨y, hy, .inr rfl⟩), k⟩
/-- What both makes of two right rows, by Of. -/
def IsBoth (op : Bool → Bool → Bool) (a b out : List Sp) : Prop := Right 0 out ∧ ∀ d, In out d ↔ 1 ≤ d ∧ d < 3652060 ∧ op (inB a d) (inB b d) = true
theorem IsBoth.one {op op' : Bool → Bool → Bool} {a b a' b' l m : List Sp} (h : IsBoth op a b l) (k : IsBoth op' a' b' m) (e : ∀ d, 1 ≤ d → d < 3652060 → op (inB a d) (inB b d) = op' (inB a' d) (inB b' d)) : l = m :=
  right_one h.1 k.1 fun d => by
    rw [h.2, k.2]
    constructor
    · rintro ⟨h1, h2, h3⟩; exact ⟨h1, h2, by rw [← e d h1 h2]; exact h3⟩
    · rintro ⟨h1, h2, h3⟩; exact ⟨h1, h2, by rw [e d h1 h2]; exact h3⟩
theorem IsOf.both {l out : List Sp} (h : IsOf l out) : IsBoth (fun x _ => x) l [] out := ⟨h.1, fun d => by rw [h.2, inB_iff]⟩
theorem IsBoth.inB {op : Bool → Bool → Bool} {a b out : List Sp} (h : IsBoth op a b out) {d : Int} (h1 : 1 ≤ d) (h2 : d < 3652060) : inB out d = op (inB a d) (inB b d) := by
  rw [Bool.eq_iff_iff, inB_iff, h.2]
  exact ⟨fun k => k.2.2, fun k => ⟨h1, h2, k⟩⟩
theorem IsOf.inB {l out : List Sp} (h : IsOf l out) {d : Int} (h1 : 1 ≤ d) (h2 : d < 3652060) : inB out d = inB l d := h.both.inB h1 h2
/-- both, by the days of what came in -/
theorem isBoth_of {op : Bool → Bool → Bool} (h0 : op false false = false) {a b A B out : List Sp} {E : List Int} (hA : IsOf a A) (hB : IsOf b B) (hE : Asc E) (eA : ∀ z ∈ endsL A, z ∈ E) (eB : ∀ z ∈ endsL B, z ∈ E)
    (h : IsOf ((pairs E).filter fun x => op (inB A x.1) (inB B x.1)) out) : IsBoth op a b out := by
  refine ⟨h.1, fun d => ?_⟩
  rw [h.2, both_days hE eA eB h0]
  constructor
  · rintro ⟨h1, h2, h3⟩; exact ⟨h1, h2, by rw [← hA.inB h1 h2, ← hB.inB h1 h2]; exact h3⟩
  · rintro ⟨h1, h2, h3⟩; exact ⟨h1, h2, by rw [hA.inB h1 h2, hB.inB h1 h2]; exact h3⟩
/-! ### a day among right spans, those that end ahead of it taken off -/
def dropTo (l : List Sp) (d : Int) : List Sp := l.dropWhile fun x => decide (x.2 ≤ d)
theorem dropTo_cons (x : Sp) (l : List Sp) (d : Int) : dropTo (x :: l) d = if x.2 ≤ d then dropTo l d else x :: l := by
  unfold dropTo
  rw [List.dropWhile_cons]
  simp
theorem dropTo_in (l : List Sp) {d e : Int} (h : d ≤ e) : inB (dropTo l d) e = inB l e := by
  induction l with
  | nil => rfl
  | cons x l ih =>
    rw [dropTo_cons]
    split
    · rename_i hc
      rw [ih]
      have hx : ¬ e < x.2 := by omega
      simp [inB, hx]
    · rfl
theorem Right.tail {a : Int} {x : Sp} {l : List Sp} (h : Right a (x :: l)) : Right a l := h.2.2.2.mono (by have := h.1; have := h.2.1; omega)
theorem dropTo_right {a : Int} {l : List Sp} (h : Right a l) (d : Int) : Right a (dropTo l d) := by
  induction l with
  | nil => exact h
  | cons x l ih =>
    rw [dropTo_cons]
    split
    · exact ih h.tail
    · exact h
def headIn (l : List Sp) (d : Int) : Bool := match l with | [] => false | x :: _ => decide (x.1 ≤ d)
theorem headIn_eq {a : Int} {l : List Sp} (h : Right a l) (d : Int) : headIn (dropTo l d) d = inB l d := by
  induction l generalizing a with
  | nil => rfl
  | cons x l ih =>
    rw [dropTo_cons]
    split
    · rename_i hc
      have hx : ¬ d < x.2 := by omega
      rw [ih h.2.2.2]
      simp [inB, hx]
    · rename_i hc
      have hx : d < x.2 := by omega
      by_cases h1 : x.1 ≤ d
      · simp [headIn, inB, h1, hx]
      · have hn : ¬ In l d := fun k => by have := Right.ahead h.2.2.2 k; omega
        have hn' := inB_false.2 hn
        simp only [inB] at hn'
        simp [headIn, inB, h1, hn']
/-! ### widened -/
def wideL (l : List Sp) (k : Int) : List Sp := l.map fun x => (x.1, x.2 + k)
theorem wide_in {l m out : List Sp} {k k' : Int} (h : IsOf l m) (ho : IsOf (wideL m k') out) (hk : k' = min (max k 0) 3652060) (h0 : 0 ≤ k) (d : Int) : In out d ↔ 1 ≤ d ∧ d < 3652060 ∧ ∃ e, 1 ≤ e ∧ e ≤ d ∧ d ≤ e + k ∧ In l e := by
  rw [ho.2]
  have key : 1 ≤ d → d < 3652060 → (In (wideL m k') d ↔ ∃ e, 1 ≤ e ∧ e ≤ d ∧ d ≤ e + k ∧ In l e) := fun d1 d2 => by
    constructor
    · rintro ⟨x, hx, a, b⟩
      obtain ⟨y, hy, rfl⟩ := List.mem_map.1 hx
      dsimp only at a b
      by_cases hd : d < y.2
      · have hq : In m d := ⟨y, hy, a, hd⟩
        exact ⟨d, d1, Int.le_refl _, by omega, ((h.2 d).1 hq).2.2⟩
      · have hne : y.1 < y.2 := by
          have : ∀ {a : Int} {l : List Sp}, Right a l → ∀ y ∈ l, y.1 < y.2 := by
            intro a l
            induction l generalizing a with
            | nil => intro _ y hy; cases hy
            | cons z l ih =>
              intro hr y hy
              rcases List.mem_cons.1 hy with rfl | hy
              · exact hr.2.1
              · exact ih hr.2.2.2 y hy
          exact this h.1 y hy
        have hq : In m (y.2 - 1) := ⟨y, hy, by omega, by omega⟩
        have h3 := (h.2 _).1 hq
        exact ⟨y.2 - 1, h3.1, by omega, by omega, h3.2.2⟩
    · rintro ⟨e, e1, e2, e3, e4⟩
      obtain ⟨y, hy, a, b⟩ := (h.2 e).2 ⟨e1, by omega, e4⟩
      exact ⟨(y.1, y.2 + k'), List.mem_map.2 ⟨y, hy, rfl⟩, by dsimp only; omega, by dsimp only; omega⟩
  constructor
  · rintro ⟨a, b, c⟩; exact ⟨a, b, (key a b).1 c⟩
  · rintro ⟨a, b, c⟩; exact ⟨a, b, (key a b).2 c⟩
/-! ### how many days -/
def daysL : List Sp → Int
  | [] => 0
  | x :: l => x.2 - x.1 + daysL l
theorem daysL_append (a b : List Sp) : daysL (a ++ b) = daysL a + daysL b := by
  induction a with
  | nil => simp [daysL]
  | cons x a ih => simp only [List.cons_append, daysL, ih]; omega
theorem daysL_le {a : Int} {l : List Sp} (h : Right a l) : 0 ≤ daysL l ∧ (daysL l + a ≤ 3652060 ∨ l = []) := by
  induction l generalizing a with
  | nil => exact ⟨Int.le_refl _, .inr rfl⟩
  | cons x l ih =>
    obtain ⟨h1, h2, h3, h4⟩ := h
    obtain ⟨k1, k2⟩ := ih h4
    simp only [daysL]
    refine ⟨by omega, .inl ?_⟩
    rcases k2 with k2 | rfl
    · omega
    · simp only [daysL]; omega
def cnt (p : Int → Bool) : Nat → Int
  | 0 => 0
  | n + 1 => cnt p n + if p n then 1 else 0
theorem cnt_add {p q r s : Int → Bool} : ∀ {n : Nat}, (∀ d : Int, 0 ≤ d → d < n → (if p d then 1 else 0) + (if q d then 1 else 0) = ((if r d then 1 else 0) + (if s d then 1 else 0) : Int)) → cnt p n + cnt q n = cnt r n + cnt s n
  | 0, _ => rfl
  | n + 1, h => by
    have h1 := h n (by omega) (by omega)
    have h2 := cnt_add (n := n) fun d h0 hd => h d h0 (by omega)
    simp only [cnt]
    omega
theorem cnt_none {p : Int → Bool} : ∀ {n : Nat}, (∀ d : Int, 0 ≤ d → d < n → p d = false) → cnt p n = 0
  | 0, _ => rfl
  | n + 1, h => by
    simp only [cnt]
    rw [h n (by omega) (by omega), cnt_none fun d h0 hd => h d h0 (by omega)]
    simp
theorem cnt_span {a b : Int} (ha : 0 ≤ a) : ∀ {n : Nat}, cnt (fun d => decide (a ≤ d) && decide (d < b)) n = max 0 (min b n - a)
  | 0 => by simp only [cnt]; omega
  | n + 1 => by
    simp only [cnt, cnt_span ha (n := n)]
    by_cases h1 : a ≤ n <;> by_cases h2 : (n : Int) < b <;> simp [h1, h2] <;> omega
theorem cnt_days {a : Int} {l : List Sp} (ha : 0 ≤ a) (h : Right a l) : cnt (inB l) 3652060 = daysL l := by
  induction l generalizing a with
  | nil => exact cnt_none fun d _ _ => rfl
  | cons x l ih =>
    obtain ⟨h1, h2, h3, h4⟩ := h
    have e := cnt_add (n := 3652060) (p := inB (x :: l)) (q := fun _ => false) (r := fun d => decide (x.1 ≤ d) && decide (d < x.2)) (s := inB l) fun d _ _ => by
      have hdis : x.1 ≤ d → d < x.2 → inB l d = false := fun a b => inB_false.2 fun k => by have := Right.ahead h4 k; omega
      have hc : inB (x :: l) d = (decide (x.1 ≤ d) && decide (d < x.2) || inB l d) := by simp [inB]
      rw [hc]
      by_cases c1 : x.1 ≤ d <;> by_cases c2 : d < x.2
      · rw [hdis c1 c2]; simp [c1, c2]
      · simp [c1, c2]
      · simp [c1, c2]
      · simp [c1, c2]
    rw [cnt_none (p := fun _ => false) (fun _ _ _ => rfl), cnt_span (by omega), ih (by omega) h4] at e
    simp only [daysL]
    omega
end Go.Proofs.YtefaihockgebeaaGreat

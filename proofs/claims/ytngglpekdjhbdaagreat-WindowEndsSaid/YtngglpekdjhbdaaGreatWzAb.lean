/- Layer 11: the closure that tells a segment. -/
import Derived.Test.YtngglpekdjhbdaaGreatWzY
import Derived.Test.YtngglpekdjhbdaaGreatWzAa
import Derived.Test.YtngglpekdjhbdaaGreatWzV
import Derived.OrdersIn
import Derived.RangeFuncCalls
import Derived.TacticsIn
import Derived.Test.YtngglpekdjhbdaaGreatWzI
namespace Go.Proofs.YtngglpekdjhbdaaGreat
open Go.RowKit Go.ChangeMaps Go.Deep Tr
set_option linter.unusedSimpArgs false
set_option linter.unusedVariables false
set_option maxRecDepth 20000

end Go.Proofs.YtngglpekdjhbdaaGreat
namespace Go.Proofs.YtngglpekdjhbdaaGreat
open Go.RowKit Go.ChangeMaps Go.Deep Tr
set_option linter.unusedSimpArgs false
set_option linter.unusedVariables false
set_option maxRecDepth 20000

end Go.Proofs.YtngglpekdjhbdaaGreat
namespace Go.Proofs.YtngglpekdjhbdaaGreat
set_option linter.unusedSimpArgs false
set_option linter.unusedVariables false

/-- L: the segments of g from a on, up to z -/
inductive SegsTo (g : Int → Int) (a : Int) : Int → List Sg → Prop
  | nil : SegsTo g a a []
  | snoc {z : Int} {L : List Sg} (s : Sg) : SegsTo g a z L → s.f = z → z < s.t → (∀ d, z ≤ d → d < s.t → g d = s.v) → (∀ r, L.getLast? = some r → r.v ≠ s.v) → SegsTo g a s.t (L ++ [s])
theorem SegsTo.cases' {g : Int → Int} {a z : Int} {L : List Sg} (h : SegsTo g a z L) : (L = [] ∧ z = a) ∨ ∃ L' s, L = L' ++ [s] ∧ s.t = z ∧ SegsTo g a s.f L' ∧ s.f < s.t ∧ (∀ d, s.f ≤ d → d < s.t → g d = s.v) ∧ (∀ r, L'.getLast? = some r → r.v ≠ s.v) := by
  cases h with
  | nil => exact .inl ⟨rfl, rfl⟩
  | snoc s h h1 h2 h3 h4 => subst h1; exact .inr ⟨_, s, rfl, rfl, h, h2, h3, h4⟩
theorem SegsTo.le {g : Int → Int} {a z : Int} {L : List Sg} (h : SegsTo g a z L) : a ≤ z ∧ (a < z → L ≠ []) := by
  induction h with
  | nil => exact ⟨Int.le_refl _, fun h => by omega⟩
  | snoc s h h1 h2 h3 h4 ih => exact ⟨by omega, fun _ => by simp⟩
/-- the last segment's begin: ahead of it the value is another one -/
theorem SegsTo.pre {g : Int → Int} {a : Int} {L : List Sg} {s : Sg} (h : SegsTo g a s.f L) (hv : ∀ r, L.getLast? = some r → r.v ≠ s.v) : s.f = a ∨ (a < s.f ∧ g (s.f - 1) ≠ s.v) := by
  rcases h.cases' with ⟨_, e⟩ | ⟨L', r, rfl, h1, h2, h3, h4, h5⟩
  · exact .inl e
  · refine .inr ⟨by have := h2.le.1; omega, ?_⟩
    rw [h4 (s.f - 1) (by omega) (by omega)]
    exact hv r (by simp)
theorem SegsTo.unique {g : Int → Int} {a : Int} : ∀ (n : Nat) {z : Int} {L L' : List Sg}, L.length ≤ n → SegsTo g a z L → SegsTo g a z L' → L = L'
  | n, z, L, L', hn, h, h' => by
    rcases h.cases' with ⟨rfl, e⟩ | ⟨K, s, rfl, h1, h2, h3, h4, h5⟩ <;> rcases h'.cases' with ⟨rfl, e'⟩ | ⟨K', s', rfl, h1', h2', h3', h4', h5'⟩
    · rfl
    · have := h2'.le.1; omega
    · have := h2.le.1; omega
    · have hv : s.v = s'.v := by rw [← h4 (z - 1) (by omega) (by omega), ← h4' (z - 1) (by omega) (by omega)]
      have hf : s.f = s'.f := by
        have p := h2.pre h5
        have p' := h2'.pre h5'
        have q := h2.le.1
        have q' := h2'.le.1
        rcases Int.lt_trichotomy s.f s'.f with c | c | c
        · rcases p' with e | ⟨_, e⟩
          · omega
          · exact absurd ((h4 (s'.f - 1) (by omega) (by omega)).trans hv) e
        · exact c
        · rcases p with e | ⟨_, e⟩
          · omega
          · exact absurd ((h4' (s.f - 1) (by omega) (by omega)).trans hv.symm) e
      cases n with
      | zero => simp at hn
      | succ n =>
        have hK := SegsTo.unique n (L := K) (L' := K') (by simp at hn; omega) h2 (by rw [hf]; exact h2')
        have hs : s = s' := by
          obtain ⟨f, t, v⟩ := s
          obtain ⟨f', t', v'⟩ := s'
          dsimp only at *
          subst hv hf
          rw [h1, h1']
        rw [hK, hs]
def addS (o : List Sg × Int) (tz v : Int) : List Sg × Int := if o.2 < tz then (o.1 ++ [⟨o.2, tz, v⟩], tz) else o
def stepS (b : Int) (o : List Sg × Int) (x : Sg) : List Sg × Int := addS (addS o x.f 0) (min x.t b) x.v
/-- where the telling stands: the last item told, if any -/
structure ToldS (g : Int → Int) (a b : Int) (o : List Sg × Int) (y : Option Sg) : Prop where
  segs : SegsTo g a o.2 o.1
  at_ : match y with | none => o = ([], a) | some y => o.2 = min y.t b ∧ ∃ r, o.1.getLast? = some r ∧ r.v = y.v
theorem told_step {g : Int → Int} {a b : Int} (hab : a < b) {o : List Sg × Int} {y : Option Sg} (h : ToldS g a b o y) {x : Sg} (hx : a < x.t ∧ x.f < b ∧ x.f < x.t ∧ x.v ≠ 0) (hy : ∀ z, y = some z → z.t ≤ x.f ∧ z.v ≠ 0 ∧ (z.t = x.f → z.v ≠ x.v)) (hcov : ∀ d, x.f ≤ d → d < x.t → g d = x.v) (hgap : ∀ d, o.2 ≤ d → d < x.f → g d = 0) : ToldS g a b (stepS b o x) (some x) := by
  unfold stepS
  have h2 : (addS o x.f 0).2 < min x.t b ∧ SegsTo g a (addS o x.f 0).2 (addS o x.f 0).1 ∧ (∀ r, (addS o x.f 0).1.getLast? = some r → r.v ≠ x.v) ∧ x.f ≤ (addS o x.f 0).2 := by
    unfold addS
    by_cases hc : o.2 < x.f
    · rw [if_pos hc]
      refine ⟨by dsimp only; omega, SegsTo.snoc ⟨o.2, x.f, 0⟩ h.segs rfl hc hgap ?_, ?_, by dsimp only; omega⟩
      · intro r hr
        have h3 := h.at_
        cases y with
        | none => dsimp only at h3; rw [h3] at hr; simp at hr
        | some z =>
          obtain ⟨h4, r', h5, h6⟩ := h3
          rw [h5] at hr
          cases hr
          rw [h6]
          exact (hy z rfl).2.1
      · intro r hr
        simp at hr
        subst hr
        exact Ne.symm hx.2.2.2
    · rw [if_neg hc]
      have h3 := h.at_
      cases y with
      | none =>
        dsimp only at h3
        have : o.2 = a := by rw [h3]
        refine ⟨by omega, h.segs, fun r hr => by rw [h3] at hr; simp at hr, by omega⟩
      | some z =>
        obtain ⟨h4, r', h5, h6⟩ := h3
        obtain ⟨h7, h8, h9⟩ := hy z rfl
        refine ⟨by omega, h.segs, fun r hr => ?_, by omega⟩
        rw [h5] at hr
        cases hr
        rw [h6]
        exact h9 (by omega)
  obtain ⟨c1, c2, c3, c4⟩ := h2
  generalize addS o x.f 0 = o1 at c1 c2 c3 c4
  unfold addS
  rw [if_pos c1]
  refine ⟨SegsTo.snoc ⟨o1.2, min x.t b, x.v⟩ c2 rfl c1 (fun d h1 h2 => hcov d (by omega) (by dsimp only at h2; omega)) c3, rfl, ⟨o1.2, min x.t b, x.v⟩, by simp, rfl⟩
theorem told_end {g : Int → Int} {a b : Int} (hab : a < b) {o : List Sg × Int} {y : Option Sg} (h : ToldS g a b o y) (hy : ∀ z, y = some z → z.v ≠ 0) (hgap : ∀ d, o.2 ≤ d → d < b → g d = 0) (hle : o.2 ≤ b) : SegsTo g a b (addS o b 0).1 := by
  unfold addS
  by_cases hc : o.2 < b
  · rw [if_pos hc]
    refine SegsTo.snoc ⟨o.2, b, 0⟩ h.segs rfl hc hgap ?_
    intro r hr
    have h3 := h.at_
    cases y with
    | none => dsimp only at h3; rw [h3] at hr; simp at hr
    | some z =>
      obtain ⟨h4, r', h5, h6⟩ := h3
      rw [h5] at hr
      cases hr
      rw [h6]
      exact hy z rfl
  · rw [if_neg hc]
    have : o.2 = b := by omega
    rw [← this]
    exact h.segs
/-- the segments that meet a span, in order, told whole -/
theorem told_all {g : Int → Int} {a b : Int} (hab : a < b) {Y : List Sg} (hone : ∀ x ∈ Y, a < x.t ∧ x.f < b ∧ x.f < x.t ∧ x.v ≠ 0) (hord : Y.Pairwise (fun x y => x.t ≤ y.f)) (hun : ∀ x ∈ Y, ∀ y ∈ Y, x.t = y.f → x.v ≠ y.v) (hcov : ∀ x ∈ Y, ∀ d, x.f ≤ d → d < x.t → g d = x.v) (hno : ∀ d, a ≤ d → d < b → (∀ x ∈ Y, ¬ (x.f ≤ d ∧ d < x.t)) → g d = 0) :
    SegsTo g a b (addS (Y.foldl (stepS b) ([], a)) b 0).1 := by
  have main : ∀ (n : Nat), n ≤ Y.length → ToldS g a b ((Y.take n).foldl (stepS b) ([], a)) (Y.take n).getLast? := fun n => by
    induction n with
    | zero => intro _; exact ⟨SegsTo.nil, rfl⟩
    | succ n ih =>
      intro hn
      have h := ih (by omega)
      have hlt : n < Y.length := by omega
      rw [List.take_succ_eq_append_getElem hlt, List.foldl_append]
      simp only [List.foldl_cons, List.foldl_nil, List.getLast?_append, List.getLast?_singleton, Option.some_or]
      have hmem := List.getElem_mem hlt
      have hspl : Y.take n ++ Y[n] :: Y.drop (n + 1) = Y := by rw [← List.drop_eq_getElem_cons hlt, List.take_append_drop]
      have hp : (Y.take n ++ Y[n] :: Y.drop (n + 1)).Pairwise (fun x y => x.t ≤ y.f) := by rw [hspl]; exact hord
      have hbef : ∀ z ∈ Y.take n, z.t ≤ (Y[n]).f := fun z hz => (List.pairwise_append.1 hp).2.2 z hz _ List.mem_cons_self
      have haft : ∀ z ∈ Y.drop (n + 1), (Y[n]).t ≤ z.f := fun z hz => (List.pairwise_cons.1 (List.pairwise_append.1 hp).2.1).1 z hz
      refine told_step hab h (hone _ hmem) (fun z hz => ?_) (hcov _ hmem) (fun d h1 h2 => ?_)
      · have hz' := List.mem_of_getLast? hz
        have hzY := List.mem_of_mem_take hz'
        exact ⟨hbef z hz', (hone z hzY).2.2.2, fun e => hun z hzY _ hmem e⟩
      · have ha : a ≤ ((Y.take n).foldl (stepS b) ([], a)).2 := h.segs.le.1
        refine hno d (by omega) (by have := hone _ hmem; omega) fun x hx hc => ?_
        rw [← List.take_append_drop n Y, List.drop_eq_getElem_cons hlt] at hx
        rcases List.mem_append.1 hx with hx | hx
        · have hat := h.at_
          cases hl : (Y.take n).getLast? with
          | none => rw [List.getLast?_eq_none_iff] at hl; rw [hl] at hx; cases hx
          | some y =>
            rw [hl] at hat
            obtain ⟨h4, _⟩ := hat
            have hyt : x.t ≤ y.t := by
              obtain ⟨K, hK⟩ := List.getLast?_eq_some_iff.1 hl
              rw [hK] at hx
              rcases List.mem_append.1 hx with hx | hx
              · have hp := hord
                rw [← List.take_append_drop n Y, hK] at hp
                have h5 := (List.pairwise_append.1 (List.pairwise_append.1 hp).1).2.2 x hx y (by simp)
                have := (hone y (List.mem_of_mem_take (List.mem_of_getLast? hl))).2.2.1
                omega
              · simp at hx; subst hx; omega
            have := hone _ hmem
            omega
        · rcases List.mem_cons.1 hx with rfl | hx
          · omega
          · have := haft x hx
            have := (hone _ hmem).2.2.1
            omega
  have h := main Y.length (Nat.le_refl _)
  rw [List.take_length] at h
  have ha : a ≤ (Y.foldl (stepS b) ([], a)).2 := h.segs.le.1
  have hat := h.at_
  refine told_end hab h (fun z hz => (hone z (List.mem_of_getLast? hz)).2.2.2) (fun d h1 h2 => ?_) ?_
  · refine hno d (by omega) h2 fun x hx hc => ?_
    cases hl : Y.getLast? with
    | none => rw [List.getLast?_eq_none_iff] at hl; rw [hl] at hx; cases hx
    | some y =>
      rw [hl] at hat
      obtain ⟨h4, _⟩ := hat
      have hyt : x.t ≤ y.t := by
        obtain ⟨K, hK⟩ := List.getLast?_eq_some_iff.1 hl
        rw [hK] at hx
        rcases List.mem_append.1 hx with hx | hx
        · have hp := hord
          rw [hK] at hp
          have h5 := (List.pairwise_append.1 hp).2.2 x hx y (by simp)
          have := (hone y (List.mem_of_getLast? hl)).2.2.1
          omega
        · simp at hx; subst hx; omega
      omega
  · cases hl : Y.getLast? with
    | none =>
      rw [hl] at hat
      dsimp only at hat
      rw [hat]
      dsimp only
      omega
    | some y =>
      rw [hl] at hat
      obtain ⟨h4, _⟩ := hat
      omega
end Go.Proofs.YtngglpekdjhbdaaGreat
namespace Go.Proofs.YtngglpekdjhbdaaGreat
set_option linter.unusedSimpArgs false
set_option linter.unusedVariables false

def noDefer (l : List Oper) : Bool := l.all fun o => match o.op with | .defer _ => false | _ => true
theorem rowsIn_wide {n : Nat} {P : Program} {row : String} {args : Array Value} {w : World} {R : Value → World → Prop} (h : Rows P row args w R) : RowsIn Fence.wide n P row args w R :=
  fun c cs _ => let ⟨v, w', r, s⟩ := h c cs; ⟨v, w', r, stepsIn_wide.2 s⟩
section
variable {P : Program} {l : List Oper}
theorem wpOpIn_round (r n : Nat) {Q : Exit → Act → World → Prop} {ops : Array Oper} (hnd : noDefer ops.toList = true) (hQ : ¬ LetsOut Q) {i : Nat} {K K' : Act → World → Prop} {a : Act} {w : World} (hK : ∀ a w, K a w → K' a w) (h : wpOp P ops Q i K a w) :
    wpOpIn (Fence.wide.inRound r) n P ops Q i K' a w := by
  unfold wpOp at h
  unfold wpOpIn
  cases ho : ops[i]? with
  | none => rw [ho] at h; exact hK _ _ h
  | some o =>
    rw [ho] at h
    dsimp only at h ⊢
    have hd : ∀ c, o.op ≠ .defer c := fun c e => by
      have hm : o ∈ ops.toList := by
        obtain ⟨hlt, e2⟩ := Array.getElem?_eq_some_iff.1 ho
        rw [← e2]
        exact Array.getElem_mem_toList hlt
      have := List.all_eq_true.1 hnd o hm
      rw [e] at this
      cases this
    split
    · rename_i hw
      rw [if_pos hw] at h
      rcases h with h | h
      · refine ⟨fun f _ => trivial, ?_⟩
        have h' := Oper.wp_mono hK h
        unfold Oper.wp at h'
        rw [show (Fence.wide.inRound r).round = some r from rfl, Oper.semAt_some r a.eval o hd]
        revert h'
        generalize (execOp a.eval o).run P w = res
        intro h'
        rcases res with ⟨x, w'⟩ | ⟨x, w'⟩
        · cases x with
          | enter f args => exact ⟨fun hn => (by cases hn), CallsIn.inRound r (callsIn_wide.2 h')⟩
          | row row args => exact ⟨fun hn => (by cases hn), rowsIn_wide h'⟩
          | round _ _ _ _ _ => exact h'.elim
          | value v => exact h'
          | skip => exact h'
          | defer d => exact h'
          | _ => exact h'.elim
        · cases x <;> first | exact h' | exact h'.elim
      · exact absurd h.2 hQ
    · rename_i hw
      rw [if_neg hw] at h
      exact ⟨fun f _ => trivial, hK _ _ h⟩
theorem wpAnyIn_round (r n : Nat) {Q : Exit → Act → World → Prop} {ops : Array Oper} (hnd : noDefer ops.toList = true) (hQ : ¬ LetsOut Q) {md : Region.Mode} : ∀ (fuel : Nat) (listed : Array Bool) (a : Act) (w : World), wpAny P md ops Q fuel listed a w → wpAnyIn (Fence.wide.inRound r) n P md ops Q fuel listed a w
  | 0, _, _, _, h => h
  | fuel + 1, _, _, _, h => ⟨h.1, fun i hi => wpOpIn_round r n hnd hQ (wpAnyIn_round r n hnd hQ fuel _) (h.2 i hi)⟩
/-- the rule, within a round -/
theorem wp_planR {r n id : Nat} {Q : Exit → Act → World → Prop} {a : Act} {w : World} (segs : List (List Nat × Nat × List Nat)) (last : List Nat) (hm : P.follows .mixedOrders = true) (hok : planOk P l segs last = true) (hnd : noDefer l = true) (hQ : ¬ LetsOut Q)
    (h : wpSegs P l (fun a w => Q .normal a w) last segs a w.drew) : (Code.region id l.toArray true).wpIn (Fence.wide.inRound r) n P Q a w := by
  have F := facts_of hok
  refine wpIn_region_any hm (wpAnyIn_round r n (by simpa using hnd) hQ _ _ _ _ ?_)
  show wpAny P .any l.toArray Q l.toArray.size (Array.replicate l.toArray.size false) a w.drew
  obtain ⟨b, pre, todo, hord, hall, hsb, hst, hpx⟩ := advance F segs [] a w.drew rfl (fun s hs => hs) h
  have hf : ∀ i, (Array.replicate l.toArray.size false).getD i false = false := fun i => by
    rw [Array.getD_eq_getD_getElem?, Array.getElem?_replicate]; split <;> rfl
  refine wpAny_of_inv F _ _ _ _ pre todo b (by rw [cnt_new _ _ (by simp)]; simp) ⟨by simp, ?_, hord.symm, fun i _ => hf i, fun i hi _ => hall i hi, hsb.defers.symm, hsb.size.symm, ?_, hst, fun k hk hkx => absurd hkx (hpx k hk)⟩
  · intro j o _ hj
    rw [hf j] at hj
    cases hj
  · intro s hs
    refine (hsb.slot s fun hmem => ?_).symm
    obtain ⟨k, hk, e⟩ := List.mem_map.1 hmem
    exact hs k hk (hf k) e
end
end Go.Proofs.YtngglpekdjhbdaaGreat
namespace Go.Proofs.YtngglpekdjhbdaaGreat
open Go.RowKit Go.ChangeMaps Go.Deep Tr
set_option linter.unusedSimpArgs false
set_option linter.unusedVariables false
set_option maxRecDepth 20000

def encSg (s : Sg) : List Value := [.int .i64 s.f, .int .i64 s.t, .int .i64 s.v]
theorem encSg_len (x : Sg) : (encSg x).length = 3 := rfl
theorem encSg_one (x : Sg) : ∀ v ∈ encSg x, v.oneCell' = true := by intro v hv; simp [encSg] at hv; rcases hv with rfl | rfl | rfl <;> rfl
end Go.Proofs.YtngglpekdjhbdaaGreat

/- A region that draws its order, walked in one order within a loop's round (a range over a function). -/
import Derived.OrdersIn
import Derived.RangeFuncCalls
import Derived.TacticsIn
import Derived.Test.YtngglpekdjhbdaaRegF
namespace Go.Proofs.Ytngglpekdjhbdaa
set_option linter.unusedSimpArgs false
set_option linter.unusedVariables false

def noDefer (l : List Oper) : Bool := l.all fun o => match o.op with | .defer _ => false | _ => true
theorem rowsIn_wide {n : Nat} {P : Program} {row : String} {args : Array Value} {w : World} {R : Value → World → Prop} (h : Rows P row args w R) : RowsIn Fence.wide n P row args w R :=
  fun c cs _ => let ⟨v, w', r, s⟩ := h c cs; ⟨v, w', r, stepsIn_wide.2 s⟩
section
variable {P : Program} {l : List Oper}
theorem wpOpIn_round (r n : Nat) {Q : Exit → Act → World → Prop} {ops : Array Oper} (hnd : noDefer ops.toList = true) (hQ : ¬ LetsOut Q) {i : Nat} {K K' : Act → World → Prop} {a : Act} {w : World} (hK : ∀ a w, K a w → K' a w) (h : wpOp P ops Q i K a w) :
    wpOpIn (Fence.wide.inRound r) n P ops Q i K' a w := by
  unfold wpOp at h
  unfold wpOpIn
  cases ho : ops[i]? with
  | none => rw [ho] at h; exact hK _ _ h
  | some o =>
    rw [ho] at h
    dsimp only at h ⊢
    have hd : ∀ c, o.op ≠ .defer c := fun c e => by
      have hm : o ∈ ops.toList := by
        obtain ⟨hlt, e2⟩ := Array.getElem?_eq_some_iff.1 ho
        rw [← e2]
        exact Array.getElem_mem_toList hlt
      have := List.all_eq_true.1 hnd o hm
      rw [e] at this
      cases this
    split
    · rename_i hw
      rw [if_pos hw] at h
      rcases h with h | h
      · refine ⟨fun f _ => trivial, ?_⟩
        have h' := Oper.wp_mono hK h
        unfold Oper.wp at h'
        rw [show (Fence.wide.inRound r).round = some r from rfl, Oper.semAt_some r a.eval o hd]
        revert h'
        generalize (execOp a.eval o).run P w = res
        intro h'
        rcases res with ⟨x, w'⟩ | ⟨x, w'⟩
        · cases x with
          | enter f args => exact ⟨fun hn => (by cases hn), CallsIn.inRound r (callsIn_wide.2 h')⟩
          | row row args => exact ⟨fun hn => (by cases hn), rowsIn_wide h'⟩
          | round _ _ _ _ _ => exact h'.elim
          | value v => exact h'
          | skip => exact h'
          | defer d => exact h'
          | _ => exact h'.elim
        · cases x <;> first | exact h' | exact h'.elim
      · exact absurd h.2 hQ
    · rename_i hw
      rw [if_neg hw] at h
      exact ⟨fun f _ => trivial, hK _ _ h⟩
theorem wpAnyIn_round (r n : Nat) {Q : Exit → Act → World → Prop} {ops : Array Oper} (hnd : noDefer ops.toList = true) (hQ : ¬ LetsOut Q) {md : Region.Mode} : ∀ (fuel : Nat) (listed : Array Bool) (a : Act) (w : World), wpAny P md ops Q fuel listed a w → wpAnyIn (Fence.wide.inRound r) n P md ops Q fuel listed a w
  | 0, _, _, _, h => h
  | fuel + 1, _, _, _, h => ⟨h.1, fun i hi => wpOpIn_round r n hnd hQ (wpAnyIn_round r n hnd hQ fuel _) (h.2 i hi)⟩
/-- the rule, within a round -/
theorem wp_planR {r n id : Nat} {Q : Exit → Act → World → Prop} {a : Act} {w : World} (segs : List (List Nat × Nat × List Nat)) (last : List Nat) (hm : P.follows .mixedOrders = true) (hok : planOk P l segs last = true) (hnd : noDefer l = true) (hQ : ¬ LetsOut Q)
    (h : wpSegs P l (fun a w => Q .normal a w) last segs a w.drew) : (Code.region id l.toArray true).wpIn (Fence.wide.inRound r) n P Q a w := by
  have F := facts_of hok
  refine wpIn_region_any hm (wpAnyIn_round r n (by simpa using hnd) hQ _ _ _ _ ?_)
  show wpAny P .any l.toArray Q l.toArray.size (Array.replicate l.toArray.size false) a w.drew
  obtain ⟨b, pre, todo, hord, hall, hsb, hst, hpx⟩ := advance F segs [] a w.drew rfl (fun s hs => hs) h
  have hf : ∀ i, (Array.replicate l.toArray.size false).getD i false = false := fun i => by
    rw [Array.getD_eq_getD_getElem?, Array.getElem?_replicate]; split <;> rfl
  refine wpAny_of_inv F _ _ _ _ pre todo b (by rw [cnt_new _ _ (by simp)]; simp) ⟨by simp, ?_, hord.symm, fun i _ => hf i, fun i hi _ => hall i hi, hsb.defers.symm, hsb.size.symm, ?_, hst, fun k hk hkx => absurd hkx (hpx k hk)⟩
  · intro j o _ hj
    rw [hf j] at hj
    cases hj
  · intro s hs
    refine (hsb.slot s fun hmem => ?_).symm
    obtain ⟨k, hk, e⟩ := List.mem_map.1 hmem
    exact hs k hk (hf k) e
end
end Go.Proofs.Ytngglpekdjhbdaa

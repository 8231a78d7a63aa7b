/- What is turned, told over. -/
import Derived.Test.YtngglpekdjhbdaaKit
namespace Go.Proofs.Ytngglpekdjhbdaa
open Go.RowKit
set_option linter.unusedSimpArgs false
set_option linter.unusedVariables false

theorem Mod.into' {l ks : List Nat} {w0 w w' : World} (h0 : Mod l w0 w) (h : Mod ks w w') (hl : ∀ k ∈ ks, w0.heap.size ≤ k ∨ k ∈ l) : Mod l w0 w' :=
  ⟨h.os.trans h0.os, h.tape.trans h0.tape, h.output.trans h0.output, Nat.le_trans h0.size h.size, fun k hk hn => (h.block k (Nat.lt_of_lt_of_le hk h0.size) (fun hm => by
    rcases hl k hm with h1 | h1
    · omega
    · exact hn h1)).trans (h0.block k hk hn)⟩
end Go.Proofs.Ytngglpekdjhbdaa

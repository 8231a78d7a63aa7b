/- DiskPlays: the pair of disks in memory; the argument; the short ways. -/
import Derived.Test.YtnoookcfacmdkaaPlainR
import Derived.Test.YtnoookcfacmdkaaDiskE
import Derived.Deep.CutRange
import Derived.Deep.CutBlock
namespace Go.Proofs.Ytnoookcfacmdkaa
open Go.RowKit Go.ChangeMaps
set_option linter.unusedSimpArgs false
set_option linter.unusedVariables false

section
variable {P : Program} {ops : Array Oper} {rest : List Oper} {o : Oper} {a : Act} {w w' : World} {Q : Exit → Act → World → Prop} {v : Value}
theorem xLoad {t : TypeId} {p : Operand} {V : Value} (ho : o.op = .load t p) (hp : a.eval p = V)
    (hrun : (Instr.loadAt t V).run P w = .ok v w') (hg : Region.wanted o (yielded ops a.tmps) = true) (h : wpList P ops Q rest (a.put o.dst v) w') : wpList P ops Q (o :: rest) a w := wpList_load hg ho hp hrun h
theorem xAlloc {t : TypeId} {z : Value} (ho : o.op = .alloc t) (hz : ∀ w, (zeroValue t).run P w = .ok z w) (hg : Region.wanted o (yielded ops a.tmps) = true)
    (h : wpList P ops Q rest (a.put o.dst (.pointer (some ⟨w.heap.size, 0, none⟩))) (w.alloc (.cells z.cells t))) : wpList P ops Q (o :: rest) a w := wpList_alloc hg ho hz h
theorem xStore {t : TypeId} {p x : Operand} {V X : Value} (ho : o.op = .store t p x) (hp : a.eval p = V) (hx : a.eval x = X)
    (hrun : (Instr.storeAt t V X).run P w = .ok () w') (hg : Region.wanted o (yielded ops a.tmps) = true) (h : wpList P ops Q rest (a.put o.dst undef) w') : wpList P ops Q (o :: rest) a w := wpList_store hg ho hp hx hrun h
theorem xConvert {s d : TypeId} {x : Operand} {X : Value} (ho : o.op = .convert s d x) (hx : a.eval x = X)
    (hrun : (convert s d X).run P w = .ok v w') (hg : Region.wanted o (yielded ops a.tmps) = true) (h : wpList P ops Q rest (a.put o.dst v) w') : wpList P ops Q (o :: rest) a w := wpList_convert hg ho hx hrun h
theorem xAppend {s x : Operand} {t : TypeId} {V X : Value} (ho : o.op = .call { callee := .builtin .append, args := #[s, x], argTypes := #[t, t] }) (hs : a.eval s = V) (hx : a.eval x = X)
    (hrun : (Builtin.append_ #[t, t] o.type #[V, X]).run P w = .ok v w') (hg : Region.wanted o (yielded ops a.tmps) = true) (h : wpList P ops Q rest (a.put o.dst v) w') : wpList P ops Q (o :: rest) a w := wpList_append hg ho hs hx hrun h
end
structure Both (w0 wr : World) (b m : Nat) (D : Dk) (rb : Nat) (v : Value) (g : Nat) (R : Rk) (n : Int) (i : Nat) : Prop where
  disk : DiskAt wr b m D
  ref : RefAt wr rb v g R
  same : Same D R
  num : D.n = n
  low : 0 ≤ R.written
  high : R.written ≤ i
  rows : R.rows.length ≤ i
  mod : Mod [] w0 wr
  fb : w0.heap.size ≤ b
  fm : w0.heap.size ≤ m
  frb : w0.heap.size ≤ rb
  fg : w0.heap.size ≤ g
  brb : b ≠ rb
  bg : b ≠ g
  mrb : m ≠ rb
  mg : m ≠ g
  rbg : rb ≠ g
theorem Both.kept {w0 wr w' : World} {b m : Nat} {D : Dk} {rb : Nat} {v : Value} {g : Nat} {R : Rk} {n : Int} {i : Nat} {l : List Nat} (h : Both w0 wr b m D rb v g R n i) (hm : Mod l wr w') (hl : ∀ k ∈ l, w0.heap.size ≤ k ∧ k ≠ b ∧ k ≠ m ∧ k ≠ rb ∧ k ≠ g) : Both w0 w' b m D rb v g R n i :=
  { h with
    disk := h.disk.kept hm (fun e => (hl _ e).2.1 rfl) (fun e => (hl _ e).2.2.1 rfl)
    ref := h.ref.kept hm (fun e => (hl _ e).2.2.2.1 rfl) (fun e => (hl _ e).2.2.2.2 rfl)
    mod := h.mod.toNil hm fun k hk => (hl k hk).1 }
theorem Both.kept0 {w0 wr w' : World} {b m : Nat} {D : Dk} {rb : Nat} {v : Value} {g : Nat} {R : Rk} {n : Int} {i : Nat} (h : Both w0 wr b m D rb v g R n i) (hm : Mod [] wr w') : Both w0 w' b m D rb v g R n i := h.kept hm (by simp)
theorem Both.more {w0 wr : World} {b m : Nat} {D : Dk} {rb : Nat} {v : Value} {g : Nat} {R : Rk} {n : Int} {i : Nat} (h : Both w0 wr b m D rb v g R n i) : Both w0 wr b m D rb v g R n (i + 1) :=
  { h with high := by have := h.high; omega, rows := by have := h.rows; omega }
theorem Both.lts {w0 wr : World} {b m : Nat} {D : Dk} {rb : Nat} {v : Value} {g : Nat} {R : Rk} {n : Int} {i : Nat} (h : Both w0 wr b m D rb v g R n i) : b < wr.heap.size ∧ m < wr.heap.size ∧ rb < wr.heap.size :=
  ⟨lt_of_heap h.disk.blk, h.disk.map.lt, lt_of_heap h.ref.blk⟩
/-- The rows' block is one that is there, or (no row) as far off as you like. -/
theorem Both.move {w0 wr : World} {b m : Nat} {D : Dk} {rb : Nat} {v : Value} {g : Nat} {R : Rk} {n : Int} {i : Nat} (h : Both w0 wr b m D rb v g R n i) (N : Nat) : ∃ g', Both w0 wr b m D rb v g' R n i ∧ (g' = g ∧ g < wr.heap.size ∨ N < g') := by
  by_cases hr : R.rows = []
  · refine ⟨N + b + m + rb + w0.heap.size + 1, { h with ref := ⟨h.ref.blk, ⟨?_, ?_, h.ref.rows.max⟩, h.ref.after⟩, fg := by omega, bg := by omega, mg := by omega, rbg := by omega }, .inr (by omega)⟩
    · obtain ⟨a, cap, hv, _⟩ := h.ref.rows.form
      exact ⟨a, cap, hv, .inl hr⟩
    · rw [hr]
      intro j u hu
      simp [rowCells] at hu
  · refine ⟨g, h, .inl ⟨rfl, rangeAt_lt h.ref.rows.cells ?_⟩⟩
    intro e
    apply hr
    have := congrArg List.length e
    rw [rowCells_length] at this
    simp only [List.length_nil] at this
    exact List.length_eq_zero_iff.1 (by omega)
structure Op3 where
  kind : Int
  at_ : Int
  v : Value
  l : List Int
structure OpAt (w : World) (ba o : Nat) (q : Op3) : Prop where
  cells : w.rangeAt ba o [.int .i64 q.kind, .int .i64 q.at_, q.v]
  bytes : BytesAt w q.v q.l
  max : q.l.length ≤ 140737488355328
  at_ : q.at_ ≤ 9223372036854775807
structure OpsAt (w : World) (a : Option Addr) (L : List Op3) : Prop where
  each : ∀ i q, L[i]? = some q → ∃ ba oa, a = some ⟨ba, oa, none⟩ ∧ OpAt w ba (oa + i * 3) q
theorem BytesAt.lt {w : World} {v : Value} {l : List Int} (h : BytesAt w v l) (hl : l ≠ []) : ∀ bb o n c, v = .slice (some ⟨bb, o, none⟩) n c → bb < w.heap.size := by
  intro bb o n c e
  cases h with
  | nil a cap => exact absurd rfl hl
  | at_ b o' cap l hr =>
    have h1 := rangeAt_lt hr (by intro e; apply hl; simpa [bv] using e)
    simp at e
    obtain ⟨⟨rfl, _⟩, _⟩ := e
    exact h1
theorem off_old {w : World} {v : Value} {l : List Int} (h : BytesAt w v l) (hl : l ≠ []) {k : Nat} (hk : w.heap.size ≤ k) : Off v k := fun bb o n c e => by
  have := h.lt hl bb o n c e
  omega
/-- Bytes that were there at the start stand when only new blocks are written. -/
theorem BytesAt.old {w w1 w2 : World} {v : Value} {l : List Int} {ks : List Nat} (h0 : BytesAt w v l) (h : BytesAt w1 v l) (hm : Mod ks w1 w2) (hk : ∀ k ∈ ks, w.heap.size ≤ k) : BytesAt w2 v l := by
  by_cases hl : l = []
  · subst hl
    obtain ⟨a, cap, rfl⟩ := h.form
    exact .nil a cap
  · exact h.kept hm fun k hk' => off_old h0 hl (hk k hk')
theorem Both.next {w0 wr : World} {b m : Nat} {D : Dk} {rb : Nat} {v : Value} {g : Nat} {R : Rk} {n : Int} {i : Nat} (h : Both w0 wr b m D rb v g R n i) {w4 w5 : World} {D' : Dk} {R' : Rk} {v5 : Value} {g5 : Nat}
    (hd : DiskAt w4 b m D') (hm4 : Mod [b, m] wr w4) (hm5 : Mod [rb] w4 w5) (hr : RefAt w5 rb v5 g5 R') (hg : g5 = g ∨ w4.heap.size ≤ g5) (hs : Same D' R') (hn : D'.n = D.n) (hlo : R.written ≤ R'.written) (hhi : R'.written ≤ R.written + 1) (hrow : R'.rows.length ≤ R.rows.length + 1) :
    Both w0 w5 b m D' rb v5 g5 R' n (i + 1) := by
  obtain ⟨l1, l2, l3⟩ := h.lts
  have s4 := hm4.size
  have s5 := hm5.size
  have hlow := h.low
  have hhigh := h.high
  have hrows := h.rows
  have e1 := h.brb
  have e2 := h.mrb
  have e3 := h.bg
  have e4 := h.mg
  have e5 := h.rbg
  have e6 := h.fg
  have e7 := h.mod.size
  have e8 := h.fb
  have e9 := h.fm
  have e10 := h.frb
  exact {
    disk := hd.kept hm5 (by simp; omega) (by simp; omega)
    ref := hr
    same := hs
    num := hn.trans h.num
    low := by omega
    high := by omega
    rows := by omega
    mod := (h.mod.toNil hm4 (by intro k hk; simp only [List.mem_cons, List.not_mem_nil, or_false] at hk; omega)).toNil hm5 (by intro k hk; simp only [List.mem_cons, List.not_mem_nil, or_false] at hk; omega)
    fb := e8
    fm := e9
    frb := e10
    fg := by omega
    brb := e1
    bg := by omega
    mrb := e2
    mg := by omega
    rbg := by omega }
theorem n_write (D : Dk) (k : Int) (l : List Int) : (D.write k l).2.n = D.n := by
  unfold Dk.write
  repeat' split
  all_goals rfl
theorem n_crash (D : Dk) (k : Int) (l : List Int) : (D.crash k l).2.n = D.n := by
  unfold Dk.crash
  repeat' split
  all_goals rfl
theorem OpAt.kept {w w' : World} {ba o : Nat} {q : Op3} (h : OpAt w ba o q) (hm : Mod [] w w') : OpAt w' ba o q :=
  ⟨rangeAt_mod h.cells hm (by simp), h.bytes.kept0 hm, h.max, h.at_⟩

set_option maxRecDepth 10000 in
theorem plays_long (a : Option Addr) (L : List Op3) (cap : Nat) (n : Int) (w : World) (h : 200 < L.length) (hm : L.length ≤ 140737488355328) :
    Calls Try.prog 4 #[.int .i64 n, .slice a L.length cap] w fun e w' => e = .returned (.bool true) ∧ Mod [] w w' := by
  go_enter Try.func4, Try.ntmps4
  go_wp2_with fail
  refine (known30_any _).mono ?_
  rintro e w1 ⟨rfl, hm1⟩
  go_wp2_with fail
  go_ret
  exact ⟨rfl, hm1⟩
set_option maxRecDepth 10000 in
theorem plays_no (a : Option Addr) (L : List Op3) (cap : Nat) (n : Int) (w : World) (h : L.length ≤ 200) (hn : n < 1 ∨ 65536 < n) :
    Calls Try.prog 4 #[.int .i64 n, .slice a L.length cap] w fun e w' => e = .returned (.bool true) ∧ Mod [] w w' := by
  have HN := Lib.hid hn
  by_cases h1 : n < 1
  · clear hn
    go_enter Try.func4, Try.ntmps4
    go_wp2_with fail
    refine (new_no n w HN.out).mono ?_
    rintro e w1 ⟨rfl, rfl⟩
    go_wp2_with fail
    refine (known30_any _).mono ?_
    rintro e w1 ⟨rfl, hm1⟩
    go_wp2_with fail
    go_ret
    exact ⟨rfl, hm1⟩
  · have h2 : 65536 < n := by omega
    clear hn
    go_enter Try.func4, Try.ntmps4
    go_wp2_with fail
    refine (new_no n w HN.out).mono ?_
    rintro e w1 ⟨rfl, rfl⟩
    go_wp2_with fail
    refine (known30_any _).mono ?_
    rintro e w1 ⟨rfl, hm1⟩
    go_wp2_with fail
    go_ret
    exact ⟨rfl, hm1⟩
end Go.Proofs.Ytnoookcfacmdkaa

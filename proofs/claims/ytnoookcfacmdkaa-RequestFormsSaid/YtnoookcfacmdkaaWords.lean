/- value.words: a map whose entries come in any order. -/
import Derived.Test.YtnoookcfacmdkaaDiskD
import Derived.Test.YtnoookcfacmdkaaReqP
import Derived.Handy
namespace Go.Proofs.Ytnoookcfacmdkaa
open Go.RowKit Go.ChangeMaps
set_option linter.unusedSimpArgs false
set_option linter.unusedVariables false

/-! ### a region in whatever order, by an invariant -/
section
variable {P : Program} {ops : Array Oper} {Q : Exit → Act → World → Prop} {md : Region.Mode}
theorem wpOp_val {K : Act → World → Prop} {i : Nat} {o : Oper} {a : Act} {w w' : World} {v : Value} (ho : ops[i]? = some o) (hw : Region.wanted o (yielded ops a.tmps) = true) (hrun : (execOp a.eval o).run P w = .ok (.value v) w') (h : K (a.put o.dst v) w') : wpOp P ops Q i K a w := by
  unfold wpOp
  rw [ho]
  simp only [hw, if_true]
  left
  unfold Oper.wp
  rw [hrun]
  exact h
def left_ (listed : Array Bool) : Nat → Nat
  | 0 => 0
  | n + 1 => left_ listed n + if listed.getD n true = true then 0 else 1
theorem left_set_ge (listed : Array Bool) (i : Nat) : ∀ n, n ≤ i → left_ (listed.setIfInBounds i true) n = left_ listed n
  | 0, _ => rfl
  | n + 1, h => by
    have e : (listed.setIfInBounds i true).getD n true = listed.getD n true := by
      simp [Array.getD_eq_getD_getElem?, Array.getElem?_setIfInBounds_ne (show i ≠ n by omega)]
    simp only [left_, e, left_set_ge listed i n (by omega)]
theorem left_set (listed : Array Bool) (i : Nat) (hi : listed.getD i true = false) (hs : i < listed.size) : ∀ n, i < n → left_ (listed.setIfInBounds i true) n + 1 = left_ listed n
  | 0, h => by omega
  | n + 1, h => by
    by_cases e : i = n
    · subst e
      have e1 : (listed.setIfInBounds i true).getD i true = true := by simp [Array.getD_eq_getD_getElem?, hs]
      simp only [left_, e1, hi, if_true, left_set_ge listed i i (Nat.le_refl _)]
      simp
    · have e1 : (listed.setIfInBounds i true).getD n true = listed.getD n true := by
        simp [Array.getD_eq_getD_getElem?, Array.getElem?_setIfInBounds_ne e]
      have := left_set listed i hi hs n (by omega)
      simp only [left_, e1]
      omega
theorem ready_mem {listed : Array Bool} {i : Nat} (h : i ∈ Region.ready md ops listed) : i < ops.size ∧ listed.getD i true = false ∧ ∀ o, ops[i]? = some o → ∀ e ∈ o.after.toList, Region.binds md e = true → listed.getD e.on false = true := by
  unfold Region.ready at h
  simp only [List.mem_filter, List.mem_range, Bool.and_eq_true, Bool.not_eq_true'] at h
  refine ⟨h.1, h.2.1, fun o ho e he hb => ?_⟩
  have := h.2.2
  rw [ho] at this
  simp only [Option.map_some, Option.getD_some, Array.all_eq_true', Bool.or_eq_true, Bool.not_eq_true'] at this
  rcases this e (by simpa using he) with h | h
  · rw [hb] at h; cases h
  · exact h
theorem wpAny_inv (I : Array Bool → Act → World → Prop) (step : ∀ listed a w i, i ∈ Region.ready md ops listed → I listed a w → wpOp P ops Q i (I (listed.setIfInBounds i true)) a w)
    (fin : ∀ listed a w, Region.ready md ops listed = [] → I listed a w → Q .normal a w) (hsz : ∀ listed a w, I listed a w → listed.size = ops.size) :
    ∀ fuel listed a w, left_ listed ops.size ≤ fuel → I listed a w → wpAny P md ops Q fuel listed a w
  | 0, listed, a, w, hl, hI => by
    have he : Region.ready md ops listed = [] := by
      apply List.eq_nil_iff_forall_not_mem.2
      intro i hi
      obtain ⟨h1, h2, _⟩ := ready_mem hi
      have := left_set listed i h2 (by rw [hsz _ _ _ hI]; exact h1) ops.size h1
      omega
    exact ⟨he, fin _ _ _ he hI⟩
  | fuel + 1, listed, a, w, hl, hI => ⟨fun he => fin _ _ _ he hI, fun i hi => by
    refine wpOp_mono (fun a' w' h' => wpAny_inv I step fin hsz fuel _ a' w' ?_ h') (step _ _ _ _ hi hI)
    obtain ⟨h1, h2, _⟩ := ready_mem hi
    have := left_set listed i h2 (by rw [hsz _ _ _ hI]; exact h1) ops.size h1
    omega⟩
end

/-! ### values as keys -/
def vKey (k c s e : Int) : Value := .agg #[.int .u8 k, .int .i64 c, .int .i64 s, .int .i64 e]
theorem eq_vKey (w : World) (k c s e k' c' s' e' : Int) : (Op.equal 76 (vKey k c s e) (vKey k' c' s' e')).run Try.prog w = .ok (decide (k = k' ∧ c = c' ∧ s = s' ∧ e = e')) w := by
  simp only [Op.equal, Op.maxDepth, vKey]
  go_simp
  repeat' split
  all_goals simp [*]
/-- The six, by the places of their entries in the text. -/
def kOf (j : Nat) : Int × Int := if j = 4 then (2, 0) else if j = 6 then (3, 0) else if j = 8 then (4, 11) else if j = 10 then (4, 12) else if j = 12 then (4, 13) else (0, 0)
def wOf (j : Nat) : ByteArray := if j = 2 then ⟨#[97, 98, 115, 101, 110, 116]⟩ else if j = 4 then ⟨#[116, 114, 117, 101]⟩ else if j = 6 then ⟨#[102, 97, 108, 115, 101]⟩ else if j = 8 then ⟨#[111, 118, 101, 114]⟩ else if j = 10 then ⟨#[100, 105, 118]⟩ else ⟨#[109, 105, 115, 115, 105, 110, 103]⟩
def sixJ : List Nat := [2, 4, 6, 8, 10, 12]
def kv (j : Nat) : Value := vKey (kOf j).1 0 0 (kOf j).2
structure Six (es : List MapEntry) (L : Nat → Prop) : Prop where
  each : ∀ e ∈ es, ∃ j ∈ sixJ, L j ∧ e.key = kv j ∧ e.val = .string (wOf j)
  all : ∀ j ∈ sixJ, L j → ∃ e ∈ es, e.key = kv j
theorem find_six {es : List MapEntry} {L : Nat → Prop} (h : ∀ e ∈ es, ∃ j ∈ sixJ, L j ∧ e.key = kv j ∧ e.val = .string (wOf j)) (k c s e : Int) (w : World) : ∀ i, ∃ r, (Instr.findAsking 76 (vKey k c s e) es i).run Try.prog w = .ok r w ∧
    ((r = none ∧ ∀ x ∈ es, x.key ≠ vKey k c s e) ∨ ∃ n j, r = some (n, .string (wOf j)) ∧ j ∈ sixJ ∧ L j ∧ vKey k c s e = kv j) := by
  induction es with
  | nil => intro i; exact ⟨none, by simp [Instr.findAsking], .inl ⟨rfl, by simp⟩⟩
  | cons x es ih =>
    intro i
    obtain ⟨j, hj, hL, h1, h2⟩ := h x (by simp)
    obtain ⟨r, hr, hor⟩ := ih (fun e he => h e (by simp [he])) (i + 1)
    by_cases hq : k = (kOf j).1 ∧ c = 0 ∧ s = 0 ∧ e = (kOf j).2
    · refine ⟨some (i, x.val), ?_, .inr ⟨i, j, by rw [h2], hj, hL, by simp [kv, vKey, hq]⟩⟩
      simp only [Instr.findAsking, Sem.run_bind, h1, kv, eq_vKey, Result.andThen_ok]
      rw [if_pos (by simpa using hq)]
      rfl
    · refine ⟨r, ?_, ?_⟩
      · simp only [Instr.findAsking, Sem.run_bind, h1, kv, eq_vKey, Result.andThen_ok]
        rw [if_neg (by simpa using hq)]
        exact hr
      · rcases hor with ⟨rfl, hn⟩ | hor
        · refine .inl ⟨rfl, fun y hy => ?_⟩
          rcases List.mem_cons.1 hy with rfl | hy
          · rw [h1]
            intro e'
            apply hq
            simp [kv, vKey] at e'
            omega
          · exact hn y hy
        · exact .inr hor
theorem find_now {es : List MapEntry} {L : Nat → Prop} (h : ∀ e ∈ es, ∃ j ∈ sixJ, L j ∧ e.key = kv j ∧ e.val = .string (wOf j)) (k c s e : Int) (w : World) : ∃ r, (Instr.findKey 76 (vKey k c s e) es).run Try.prog w = .ok r w ∧
    ((r = none ∧ ∀ x ∈ es, x.key ≠ vKey k c s e) ∨ ∃ n j, r = some (n, .string (wOf j)) ∧ j ∈ sixJ ∧ L j ∧ vKey k c s e = kv j) := by
  obtain ⟨r, hr, hor⟩ := find_six h k c s e w 0
  cases es with
  | nil => exact ⟨none, by simp [Instr.findKey, Sem.run_bind, run_underlying Try.underlying76, Instr.findNow], .inl ⟨rfl, by simp⟩⟩
  | cons x es =>
    refine ⟨r, ?_, hor⟩
    obtain ⟨j, hj, hL, h1, h2⟩ := h x (by simp)
    simp only [Instr.findKey, Sem.run_bind, run_underlying Try.underlying76, Result.andThen_ok, Instr.findNow, h1, kv, vKey, Instr.sameNow]
    exact hr
theorem check_int (b : Bool) (n : Nat) {t : TypeId} {k : IntKind} (ht : Try.prog.underlying t = some (.int k)) (x : Int) (w : World) : (Instr.checkKey b (n + 1) t (.int k x)).run Try.prog w = .ok () w :=
  MapKept.run_checkKey ht (k := .int k x) rfl b n
theorem check_dec (b : Bool) (n : Nat) (c s : Int) (w : World) : (Instr.checkKey b (n + 2) 74 (.agg #[.int .i64 c, .int .i64 s])).run Try.prog w = .ok () w := by
  have h1 := fun w => check_int b n Try.underlying2 c w
  have h2 := fun w => check_int b n Try.underlying3 s w
  unfold Instr.checkKey
  simp only [Sem.run_bind, run_underlying Try.underlying74, Result.andThen_ok]
  rw [← Array.forIn_toList]
  simp only [List.forIn_cons, List.forIn_nil]
  go_simp
theorem check_vKey (b : Bool) (n : Nat) (k c s e : Int) (w : World) : (Instr.checkKey b (n + 3) 76 (vKey k c s e)).run Try.prog w = .ok () w := by
  have h1 := fun w => check_int b (n + 1) Try.underlying5 k w
  have h2 := fun w => check_dec b n c s w
  have h3 := fun w => check_int b (n + 1) Try.underlying26 e w
  rw [vKey]
  unfold Instr.checkKey
  simp only [Sem.run_bind, run_underlying Try.underlying76, Result.andThen_ok]
  rw [← Array.forIn_toList]
  simp only [List.forIn_cons, List.forIn_nil]
  go_simp
theorem check_10000 (b : Bool) (k c s e : Int) (w : World) : (Instr.checkKey b 10000 76 (vKey k c s e)).run Try.prog w = .ok () w := check_vKey b 9997 k c s e w
theorem kOf_one : ∀ i ∈ sixJ, ∀ j ∈ sixJ, kOf i = kOf j → i = j := by decide
theorem kv_one {i j : Nat} (hi : i ∈ sixJ) (hj : j ∈ sixJ) (h : kv i = kv j) : i = j := by
  simp only [kv, vKey, Value.agg.injEq, Array.mk.injEq, List.cons.injEq, Value.int.injEq, true_and, and_true] at h
  exact kOf_one i hi j hj (Prod.ext h.1 h.2)
theorem get_map {w : World} {m : Nat} {es : Array MapEntry} {clock : Nat} (hm : w.heap[m]? = some (.map es clock)) : (getObj m).run Try.prog w = .ok (.map es clock) w := by
  simp [getObj, Sem.run, hm]
theorem set_map {w : World} {m : Nat} {es : Array MapEntry} {clock : Nat} (hm : w.heap[m]? = some (.map es clock)) (o : Obj) : (setObj m o).run Try.prog w = .ok () (setBlock w m o) := by
  simp [setObj, Sem.run, hm, setBlock]
/-- A map that holds the six, as far as they have come. -/
def WordsAt (w : World) (m : Nat) (L : Nat → Prop) : Prop := ∃ es clock, w.heap[m]? = some (.map es clock) ∧ Six es.toList L
theorem WordsAt.of_heap {w w' : World} {m : Nat} {L : Nat → Prop} (h : WordsAt w m L) (e : w'.heap[m]? = w.heap[m]?) : WordsAt w' m L := by
  obtain ⟨es, clock, h1, h2⟩ := h
  exact ⟨es, clock, e.trans h1, h2⟩
theorem WordsAt.lt {w : World} {m : Nat} {L : Nat → Prop} (h : WordsAt w m L) : m < w.heap.size := by
  obtain ⟨es, clock, h1, _⟩ := h
  exact lt_of_heap h1
theorem WordsAt.iff {w : World} {m : Nat} {L L' : Nat → Prop} (h : WordsAt w m L) (e : ∀ j ∈ sixJ, L j ↔ L' j) : WordsAt w m L' := by
  obtain ⟨es, clock, h1, h2, h3⟩ := h
  exact ⟨es, clock, h1, fun x hx => (h2 x hx).imp fun j ⟨a, b, c⟩ => ⟨a, (e j a).1 b, c⟩, fun j hj hL => h3 j hj ((e j hj).2 hL)⟩
theorem insert_six {w : World} {m : Nat} {L : Nat → Prop} (h : WordsAt w m L) {j : Nat} (hj : j ∈ sixJ) (hn : ¬ L j) :
    ∃ o, (Instr.mapUpdate 111 (.map (some m)) (kv j) (.string (wOf j))).run Try.prog w = .ok () (setBlock w m o) ∧ WordsAt (setBlock w m o) m (fun i => L i ∨ i = j) := by
  obtain ⟨es, clock, hm, h1, h2⟩ := h
  obtain ⟨r, hr, hor⟩ := find_now h1 (kOf j).1 0 0 (kOf j).2 w
  have hr0 : r = none := by
    rcases hor with ⟨rfl, _⟩ | ⟨n, i, _, hi, hL, e⟩
    · rfl
    · exact absurd (kv_one hj hi e ▸ hL) hn
  subst hr0
  refine ⟨_, ?_, es.push { key := kv j, val := .string (wOf j), born := clock }, clock + 1, heap_setBlock_eq w m _ (lt_of_heap hm), ?_, ?_⟩
  · simp only [Instr.mapUpdate, Sem.run_bind, run_underlying Try.underlying111, get_map hm, Result.andThen_ok]
    rw [kv, check_10000]
    simp only [Result.andThen_ok, hr]
    exact set_map hm _
  · intro e he
    simp at he
    rcases he with he | rfl
    · obtain ⟨i, hi, hL, e1, e2⟩ := h1 e (by simpa using he)
      exact ⟨i, hi, .inl hL, e1, e2⟩
    · exact ⟨j, hj, .inr rfl, rfl, rfl⟩
  · intro i hi hL
    rcases hL with hL | rfl
    · obtain ⟨e, he, hk⟩ := h2 i hi hL
      exact ⟨e, by simp; left; simpa using he, hk⟩
    · exact ⟨_, by simp; right; rfl, rfl⟩

theorem Mod.intoNil {l : List Nat} {w0 w w' : World} (h0 : Mod [] w0 w) (h : Mod l w w') (hl : ∀ k ∈ l, w0.heap.size ≤ k) : Mod [] w0 w' :=
  ⟨h.os.trans h0.os, h.tape.trans h0.tape, h.output.trans h0.output, Nat.le_trans h0.size h.size, fun k hk _ => (h.block k (Nat.lt_of_lt_of_le hk h0.size) (fun hm => by have := hl k hm; omega)).trans (h0.block k hk (by simp))⟩
/-! ### the walk -/
structure WInv (w0 : World) (a0 : Act) (listed : Array Bool) (a : Act) (w : World) : Prop where
  size : listed.size = 15
  tmps : a.tmps.size = 9
  defers : a.defers = a0.defers
  mod : Mod [] w0 w
  m0 : listed.getD 0 false = true → ∃ m, w0.heap.size ≤ m ∧ a.tmps[1]? = some (.map (some m)) ∧ WordsAt w m (fun j => listed.getD j false = true)
  b : ∀ j ∈ sixJ, listed.getD (j - 1) false = true → a.tmps[j / 2 + 1]? = some (kv j)
  dep : ∀ j ∈ sixJ, listed.getD j false = true → listed.getD 0 false = true
  dd : (listed.getD 13 false = true → listed.getD 0 false = true) ∧ (listed.getD 14 false = true → listed.getD 0 false = true ∧ listed.getD 13 false = true)
  s8 : listed.getD 13 false = true → a.tmps[8]? = a.tmps[1]?
  s0 : listed.getD 14 false = true → a.tmps[0]? = a.tmps[1]?
theorem set_true {listed : Array Bool} {i j : Nat} (h : listed.size = 15) (hi : i < 15) : (listed.setIfInBounds i true).getD j false = true ↔ (listed.getD j false = true ∨ j = i) := by
  simp only [Array.getD_eq_getD_getElem?, Array.getElem?_setIfInBounds]
  by_cases e : i = j
  · subst e; simp [h, hi]
  · simp [e, Ne.symm e]
theorem not_of_ready {listed : Array Bool} {i : Nat} (h : listed.getD i true = false) : listed.getD i false = false := by
  simp only [Array.getD_eq_getD_getElem?] at *
  cases e : listed[i]? <;> simp_all
theorem six_range : ∀ j ∈ sixJ, 2 ≤ j ∧ j ≤ 12 ∧ j % 2 = 0 := by decide
/-- slots that are not turned -/
theorem put_other (a : Act) {d s : Nat} (v : Value) (h : d ≠ s) : (a.put (some d) v).tmps[s]? = a.tmps[s]? := put_slot_ne a (some d) v s (by simpa using h)
theorem WInv.build {w0 : World} {a0 : Act} {listed : Array Bool} {a : Act} {w : World} (h : WInv w0 a0 listed a w) {j : Nat} (hj : j ∈ sixJ) : WInv w0 a0 (listed.setIfInBounds (j - 1) true) (a.put (some (j / 2 + 1)) (kv j)) w := by
  obtain ⟨r1, r2, r3⟩ := six_range j hj
  have hs : ∀ k, (listed.setIfInBounds (j - 1) true).getD k false = true ↔ (listed.getD k false = true ∨ k = j - 1) := fun k => set_true h.size (by omega)
  have nq : ∀ i ∈ sixJ, i ≠ j - 1 := fun i hi e => by have := six_range i hi; omega
  refine ⟨by simp [h.size], by rw [put_size, h.tmps], by rw [put_defers, h.defers], h.mod, ?_, ?_, ?_, ?_, ?_, ?_⟩
  · intro h0
    rcases (hs 0).1 h0 with h0 | h0
    · obtain ⟨m, h1, h2, h3⟩ := h.m0 h0
      refine ⟨m, h1, by rw [put_other _ _ (by omega)]; exact h2, h3.iff fun i hi => ⟨fun hL => (hs i).2 (.inl hL), fun hL => ?_⟩⟩
      rcases (hs i).1 hL with hL | hL
      · exact hL
      · exact absurd hL (nq i hi)
    · omega
  · intro i hi hL
    have ri := six_range i hi
    by_cases e : i = j
    · subst e
      exact put_slot_eq _ _ _ (by rw [h.tmps]; omega)
    · rw [put_other _ _ (by omega)]
      rcases (hs (i - 1)).1 hL with hL | hL
      · exact h.b i hi hL
      · omega
  · intro i hi hL
    rcases (hs i).1 hL with hL | hL
    · exact (hs 0).2 (.inl (h.dep i hi hL))
    · exact absurd hL (nq i hi)
  · refine ⟨fun hL => ?_, fun hL => ?_⟩
    · rcases (hs 13).1 hL with hL | hL
      · exact (hs 0).2 (.inl (h.dd.1 hL))
      · omega
    · rcases (hs 14).1 hL with hL | hL
      · exact ⟨(hs 0).2 (.inl (h.dd.2 hL).1), (hs 13).2 (.inl (h.dd.2 hL).2)⟩
      · omega
  · intro hL
    rcases (hs 13).1 hL with hL | hL
    · rw [put_other _ _ (by omega), put_other _ _ (by omega)]; exact h.s8 hL
    · omega
  · intro hL
    rcases (hs 14).1 hL with hL | hL
    · rw [put_other _ _ (by omega), put_other _ _ (by omega)]; exact h.s0 hL
    · omega
theorem WInv.insert {w0 : World} {a0 : Act} {listed : Array Bool} {a : Act} {w : World} (h : WInv w0 a0 listed a w) {j : Nat} (hj : j ∈ sixJ) (hn : listed.getD j false = false) (h0 : listed.getD 0 false = true) :
    ∃ m w', a.tmps[1]? = some (.map (some m)) ∧ (Instr.mapUpdate 111 (.map (some m)) (kv j) (.string (wOf j))).run Try.prog w = .ok () w' ∧ WInv w0 a0 (listed.setIfInBounds j true) (a.put none undef) w' := by
  obtain ⟨r1, r2, r3⟩ := six_range j hj
  have hs : ∀ k, (listed.setIfInBounds j true).getD k false = true ↔ (listed.getD k false = true ∨ k = j) := fun k => set_true h.size (by omega)
  obtain ⟨m, h1, h2, h3⟩ := h.m0 h0
  obtain ⟨o, hr, hw⟩ := insert_six h3 hj (by rw [hn]; simp)
  refine ⟨m, _, h2, hr, by simp [h.size], h.tmps, h.defers, h.mod.intoNil ((Mod.refl [m] w).setBlock (by simp) _) (by simpa using h1), fun _ => ⟨m, h1, h2, hw.iff fun i hi => (hs i).symm⟩, ?_, ?_, ?_, ?_, ?_⟩
  · intro i hi hL
    rcases (hs (i - 1)).1 hL with hL | hL
    · exact h.b i hi hL
    · have := six_range i hi; omega
  · intro i hi hL
    exact (hs 0).2 (.inl h0)
  · refine ⟨fun hL => (hs 0).2 (.inl h0), fun hL => ?_⟩
    rcases (hs 14).1 hL with hL | hL
    · exact ⟨(hs 0).2 (.inl h0), (hs 13).2 (.inl (h.dd.2 hL).2)⟩
    · omega
  · intro hL
    rcases (hs 13).1 hL with hL | hL
    · exact h.s8 hL
    · omega
  · intro hL
    rcases (hs 14).1 hL with hL | hL
    · exact h.s0 hL
    · omega
theorem listed_of {ops : Array Oper} {md : Region.Mode} {listed : Array Bool} (hr : Region.ready md ops listed = []) {i : Nat} {o : Oper} (ho : ops[i]? = some o) (hs : listed.size = ops.size) (h : ∀ e ∈ o.after.toList, listed.getD e.on false = true) : listed.getD i false = true := by
  have hi : i < ops.size := (Array.getElem?_eq_some_iff.1 ho).1
  by_cases hl : listed.getD i true = true
  · simp only [Array.getD_eq_getD_getElem?] at *
    have : listed[i]? = some listed[i] := by simp [hs, hi]
    rw [this] at hl ⊢
    exact hl
  · exfalso
    have hm : i ∈ Region.ready md ops listed := by
      unfold Region.ready
      simp only [List.mem_filter, List.mem_range, Bool.and_eq_true, Bool.not_eq_true', ho, Option.map_some, Option.getD_some, Array.all_eq_true', Bool.or_eq_true]
      exact ⟨hi, by simpa using hl, fun e he => .inr (h e (by simpa using he))⟩
    rw [hr] at hm
    cases hm
theorem wpOp_ins {ops : Array Oper} {Q : Exit → Act → World → Prop} {J : Act → World → Prop} {i : Nat} {a : Act} {o : Oper} {t : TypeId} {m k x : Operand} {M K X : Value} {w w' : World} (hi : ops[i]? = some o) (hw : Region.wanted o (yielded ops a.tmps) = true) (ho : o.op = .insert t m k x) (hm : a.eval m = M) (hk : a.eval k = K) (hx : a.eval x = X) (hrun : (Instr.mapUpdate t M K X).run Try.prog w = .ok () w') (h : J (a.put o.dst undef) w') : wpOp Try.prog ops Q i J a w := by
  subst hm; subst hk; subst hx
  unfold wpOp
  rw [hi]
  simp only [hw, if_true]
  left
  unfold Oper.wp execOp
  rw [ho]
  simp [Sem.run_bind, hrun, Result.andThen]
  exact h
theorem exec_makeMap {a : Act} {o : Oper} {w : World} (ho : o.op = .makeMap 111 none) : (execOp a.eval o).run Try.prog w = .ok (.value (.map (some w.heap.size))) (w.alloc (.map #[] 0)) := by
  unfold execOp
  rw [ho]
  rfl
theorem exec_move {a : Act} {o : Oper} {w : World} {x : Operand} {v : Value} (ho : o.op = .move x ∨ o.op = .assign x) (hx : a.eval x = v) : (execOp a.eval o).run Try.prog w = .ok (.value v) w := by
  subst hx
  unfold execOp
  rcases ho with ho | ho <;> rw [ho] <;> rfl
theorem six_none (L : Nat → Prop) (h : ∀ j ∈ sixJ, ¬ L j) : Six [] L := ⟨by simp, fun j hj hL => absurd hL (h j hj)⟩
theorem WInv.make {w0 : World} {a0 : Act} {listed : Array Bool} {a : Act} {w : World} (h : WInv w0 a0 listed a w) (hn : listed.getD 0 false = false) :
    WInv w0 a0 (listed.setIfInBounds 0 true) (a.put (some 1) (.map (some w.heap.size))) (w.alloc (.map #[] 0)) := by
  have hs : ∀ k, (listed.setIfInBounds 0 true).getD k false = true ↔ (listed.getD k false = true ∨ k = 0) := fun k => set_true h.size (by omega)
  have h13 : ¬ listed.getD 13 false = true := fun hL => by rw [h.dd.1 hL] at hn; cases hn
  have h14 : ¬ listed.getD 14 false = true := fun hL => by rw [(h.dd.2 hL).1] at hn; cases hn
  have hno : ∀ j ∈ sixJ, ¬ listed.getD j false = true := fun j hj hL => by rw [h.dep j hj hL] at hn; cases hn
  have hnp : ∀ j ∈ sixJ, ¬ (listed.setIfInBounds 0 true).getD j false = true := fun j hj hL => by
    rcases (hs j).1 hL with hL | hL
    · exact hno j hj hL
    · have := six_range j hj; omega
  refine ⟨by simp [h.size], by rw [put_size, h.tmps], by rw [put_defers, h.defers], h.mod.alloc _, fun _ => ⟨w.heap.size, h.mod.size, put_slot_eq _ _ _ (by rw [h.tmps]; omega), ?_⟩, ?_, ?_, ?_, ?_, ?_⟩
  · refine ⟨#[], 0, ?_, six_none _ hnp⟩
    exact heap_alloc_new w _
  · intro j hj hL
    have := six_range j hj
    rw [put_other _ _ (by omega)]
    rcases (hs (j - 1)).1 hL with hL | hL
    · exact h.b j hj hL
    · omega
  · intro j hj hL
    exact absurd hL (hnp j hj)
  · refine ⟨fun hL => ?_, fun hL => ?_⟩
    · exact (hs 0).2 (.inr rfl)
    · rcases (hs 14).1 hL with hL | hL
      · exact absurd hL h14
      · omega
  · intro hL
    rcases (hs 13).1 hL with hL | hL
    · exact absurd hL h13
    · omega
  · intro hL
    rcases (hs 14).1 hL with hL | hL
    · exact absurd hL h14
    · omega
theorem WInv.move {w0 : World} {a0 : Act} {listed : Array Bool} {a : Act} {w : World} (h : WInv w0 a0 listed a w) {i d : Nat} (hd : i = 13 ∧ d = 8 ∨ i = 14 ∧ d = 0) {v : Value} (hv : a.tmps[1]? = some v) (hl0 : listed.getD 0 false = true) (hl : i = 14 → listed.getD 13 false = true) (hn : i = 13 → listed.getD 13 false = false) :
    WInv w0 a0 (listed.setIfInBounds i true) (a.put (some d) v) w := by
  have hs : ∀ k, (listed.setIfInBounds i true).getD k false = true ↔ (listed.getD k false = true ∨ k = i) := fun k => set_true h.size (by omega)
  refine ⟨by simp [h.size], by rw [put_size, h.tmps], by rw [put_defers, h.defers], h.mod, ?_, ?_, ?_, ?_, ?_, ?_⟩
  · intro h0
    rcases (hs 0).1 h0 with h0 | h0
    · obtain ⟨m, h1, h2, h3⟩ := h.m0 h0
      refine ⟨m, h1, by rw [put_other _ _ (by omega)]; exact h2, h3.iff fun j hj => ⟨fun hL => (hs j).2 (.inl hL), fun hL => ?_⟩⟩
      have := six_range j hj
      rcases (hs j).1 hL with hL | hL
      · exact hL
      · omega
    · omega
  · intro j hj hL
    have := six_range j hj
    rw [put_other _ _ (by omega)]
    rcases (hs (j - 1)).1 hL with hL | hL
    · exact h.b j hj hL
    · omega
  · intro j hj hL
    have := six_range j hj
    rcases (hs j).1 hL with hL | hL
    · exact (hs 0).2 (.inl (h.dep j hj hL))
    · omega
  · refine ⟨fun hL => (hs 0).2 (.inl hl0), fun hL => ⟨(hs 0).2 (.inl hl0), ?_⟩⟩
    rcases hd with ⟨rfl, rfl⟩ | ⟨rfl, rfl⟩
    · exact (hs 13).2 (.inr rfl)
    · exact (hs 13).2 (.inl (hl rfl))
  · intro hL
    rw [put_other _ (s := 1) _ (by omega)]
    rcases hd with ⟨rfl, rfl⟩ | ⟨rfl, rfl⟩
    · rw [hv]; exact put_slot_eq _ _ _ (by rw [h.tmps]; omega)
    · rcases (hs 13).1 hL with hL | hL
      · rw [put_other _ _ (by omega)]; exact h.s8 hL
      · omega
  · intro hL
    rw [put_other _ (s := 1) _ (by omega)]
    rcases hd with ⟨rfl, rfl⟩ | ⟨rfl, rfl⟩
    · rcases (hs 14).1 hL with hL | hL
      · have := (h.dd.2 hL).2; rw [hn rfl] at this; cases this
      · omega
    · rw [hv]; exact put_slot_eq _ _ _ (by rw [h.tmps]; omega)
theorem eval_tmp {a : Act} {s : Nat} {v : Value} (h : a.tmps[s]? = some v) : a.eval (.tmp s) = v := by
  simp [Act.eval, h]
set_option maxHeartbeats 1000000 in
theorem words_any (w : World) : Calls Try.prog 67 #[] w fun e w' => ∃ m, e = .returned (.map (some m)) ∧ w.heap.size ≤ m ∧ Mod [] w w' ∧ WordsAt w' m (fun _ => True) := by
  go_enter Try.func67, Try.ntmps67
  go_wp2_with fail
  refine wp_region_any (by kernel_rfl) ?_
  generalize hw0 : ({ heap := w.heap, tape := w.tape, drawn := w.drawn + 1, os := w.os, output := w.output } : World) = w0
  have hm0 : Mod [] w w0 := by rw [← hw0]; exact (Mod.refl [] w).drew
  have hz0 : w.heap.size = w0.heap.size := by rw [← hw0]
  clear hw0
  refine wpAny_inv (WInv w0 { tmps := #[], defers := [] }) ?step ?fin ?sz _ _ _ _ ?cnt ?ini
  case sz => exact fun _ _ _ h => h.size
  case cnt => decide +kernel
  case ini =>
    have hf : ∀ i, (Array.replicate 15 false).getD i false = false := fun i => by
      rw [Array.getD_eq_getD_getElem?, Array.getElem?_replicate]; split <;> rfl
    refine ⟨by simp, by simp, rfl, Mod.refl _ _, ?_, ?_, ?_, ⟨?_, ?_⟩, ?_, ?_⟩
    · intro h; exact absurd (hf 0) (by rw [show (Array.replicate 15 false).getD 0 false = true from h]; simp)
    · intro j _ h; exact absurd (hf (j - 1)) (by rw [show (Array.replicate 15 false).getD (j - 1) false = true from h]; simp)
    · intro j _ h; exact absurd (hf j) (by rw [show (Array.replicate 15 false).getD j false = true from h]; simp)
    · intro h; exact absurd (hf 13) (by rw [show (Array.replicate 15 false).getD 13 false = true from h]; simp)
    · intro h; exact absurd (hf 14) (by rw [show (Array.replicate 15 false).getD 14 false = true from h]; simp)
    · intro h; exact absurd (hf 13) (by rw [show (Array.replicate 15 false).getD 13 false = true from h]; simp)
    · intro h; exact absurd (hf 14) (by rw [show (Array.replicate 15 false).getD 14 false = true from h]; simp)
  case step =>
    intro listed a w i hi hI
    obtain ⟨h1, h2, h3⟩ := ready_mem hi
    have hn := not_of_ready h2
    clear hi h2
    have h1' : i < 15 := h1
    clear h1
    have h15 : i = 0 ∨ i = 1 ∨ i = 2 ∨ i = 3 ∨ i = 4 ∨ i = 5 ∨ i = 6 ∨ i = 7 ∨ i = 8 ∨ i = 9 ∨ i = 10 ∨ i = 11 ∨ i = 12 ∨ i = 13 ∨ i = 14 := by omega
    clear h1'
    rcases h15 with rfl | rfl | rfl | rfl | rfl | rfl | rfl | rfl | rfl | rfl | rfl | rfl | rfl | rfl | rfl
    · exact wpOp_val rfl rfl (exec_makeMap rfl) (hI.make hn)
    · exact wpOp_val rfl rfl (v := kv 2) (w' := w) (by kernel_rfl) (hI.build (j := 2) (by decide))
    · obtain ⟨m, w', t1, t2, t3⟩ := hI.insert (j := 2) (by decide) hn (h3 _ rfl _ (List.mem_cons_self) rfl)
      exact wpOp_ins rfl rfl rfl (eval_tmp t1) (eval_tmp (hI.b 2 (by decide) (h3 _ rfl _ (List.mem_cons_of_mem _ List.mem_cons_self) rfl))) rfl t2 t3
    · exact wpOp_val rfl rfl (v := kv 4) (w' := w) (by kernel_rfl) (hI.build (j := 4) (by decide))
    · obtain ⟨m, w', t1, t2, t3⟩ := hI.insert (j := 4) (by decide) hn (h3 _ rfl _ (List.mem_cons_self) rfl)
      exact wpOp_ins rfl rfl rfl (eval_tmp t1) (eval_tmp (hI.b 4 (by decide) (h3 _ rfl _ (List.mem_cons_of_mem _ List.mem_cons_self) rfl))) rfl t2 t3
    · exact wpOp_val rfl rfl (v := kv 6) (w' := w) (by kernel_rfl) (hI.build (j := 6) (by decide))
    · obtain ⟨m, w', t1, t2, t3⟩ := hI.insert (j := 6) (by decide) hn (h3 _ rfl _ (List.mem_cons_self) rfl)
      exact wpOp_ins rfl rfl rfl (eval_tmp t1) (eval_tmp (hI.b 6 (by decide) (h3 _ rfl _ (List.mem_cons_of_mem _ List.mem_cons_self) rfl))) rfl t2 t3
    · exact wpOp_val rfl rfl (v := kv 8) (w' := w) (by kernel_rfl) (hI.build (j := 8) (by decide))
    · obtain ⟨m, w', t1, t2, t3⟩ := hI.insert (j := 8) (by decide) hn (h3 _ rfl _ (List.mem_cons_self) rfl)
      exact wpOp_ins rfl rfl rfl (eval_tmp t1) (eval_tmp (hI.b 8 (by decide) (h3 _ rfl _ (List.mem_cons_of_mem _ List.mem_cons_self) rfl))) rfl t2 t3
    · exact wpOp_val rfl rfl (v := kv 10) (w' := w) (by kernel_rfl) (hI.build (j := 10) (by decide))
    · obtain ⟨m, w', t1, t2, t3⟩ := hI.insert (j := 10) (by decide) hn (h3 _ rfl _ (List.mem_cons_self) rfl)
      exact wpOp_ins rfl rfl rfl (eval_tmp t1) (eval_tmp (hI.b 10 (by decide) (h3 _ rfl _ (List.mem_cons_of_mem _ List.mem_cons_self) rfl))) rfl t2 t3
    · exact wpOp_val rfl rfl (v := kv 12) (w' := w) (by kernel_rfl) (hI.build (j := 12) (by decide))
    · obtain ⟨m, w', t1, t2, t3⟩ := hI.insert (j := 12) (by decide) hn (h3 _ rfl _ (List.mem_cons_self) rfl)
      exact wpOp_ins rfl rfl rfl (eval_tmp t1) (eval_tmp (hI.b 12 (by decide) (h3 _ rfl _ (List.mem_cons_of_mem _ List.mem_cons_self) rfl))) rfl t2 t3
    · obtain ⟨m, t1, t2, t3⟩ := hI.m0 (h3 _ rfl _ (List.mem_cons_self) rfl)
      exact wpOp_val rfl rfl (exec_move (.inl rfl) (eval_tmp t2)) (hI.move (i := 13) (d := 8) (.inl ⟨rfl, rfl⟩) t2 (h3 _ rfl _ (List.mem_cons_self) rfl) (by omega) (fun _ => hn))
    · obtain ⟨m, t1, t2, t3⟩ := hI.m0 (h3 _ rfl _ (List.mem_cons_of_mem _ List.mem_cons_self) rfl)
      exact wpOp_val rfl rfl (exec_move (.inr rfl) (eval_tmp ((hI.s8 (h3 _ rfl _ List.mem_cons_self rfl)).trans t2))) (hI.move (i := 14) (d := 0) (.inr ⟨rfl, rfl⟩) t2 (h3 _ rfl _ (List.mem_cons_of_mem _ List.mem_cons_self) rfl) (fun _ => h3 _ rfl _ List.mem_cons_self rfl) (by omega))
  case fin =>
    intro listed a w1 hr hI
    have hsz : listed.size = 15 := hI.size
    have c : ∀ {i}, listed.getD i false = true → listed[i]?.getD false = true := fun h => by simpa using h
    have l0 := listed_of hr (i := 0) rfl hsz (by simp)
    have l1 := listed_of hr (i := 1) rfl hsz (by simp)
    have l3 := listed_of hr (i := 3) rfl hsz (by simp)
    have l5 := listed_of hr (i := 5) rfl hsz (by simp)
    have l7 := listed_of hr (i := 7) rfl hsz (by simp)
    have l9 := listed_of hr (i := 9) rfl hsz (by simp)
    have l11 := listed_of hr (i := 11) rfl hsz (by simp)
    have l2 := listed_of hr (i := 2) rfl hsz (by simpa using ⟨c l0, c l1⟩)
    have l4 := listed_of hr (i := 4) rfl hsz (by simpa using ⟨c l0, c l3⟩)
    have l6 := listed_of hr (i := 6) rfl hsz (by simpa using ⟨c l0, c l5⟩)
    have l8 := listed_of hr (i := 8) rfl hsz (by simpa using ⟨c l0, c l7⟩)
    have l10 := listed_of hr (i := 10) rfl hsz (by simpa using ⟨c l0, c l9⟩)
    have l12 := listed_of hr (i := 12) rfl hsz (by simpa using ⟨c l0, c l11⟩)
    have l13 := listed_of hr (i := 13) rfl hsz (by simpa using ⟨c l0, c l1, c l2, c l3, c l4, c l5, c l6, c l7, c l8, c l9, c l10, c l11, c l12⟩)
    have l14 := listed_of hr (i := 14) rfl hsz (by simpa using ⟨c l13, c l0, c l1, c l2, c l3, c l4, c l5, c l6, c l7, c l8, c l9, c l10, c l11, c l12, c l13⟩)
    obtain ⟨m, t1, t2, t3⟩ := hI.m0 l0
    have t0 := (hI.s0 l14).trans t2
    have hall : WordsAt w1 m (fun _ => True) := t3.iff fun j hj => ⟨fun _ => trivial, fun _ => by
      simp only [sixJ, List.mem_cons, List.not_mem_nil, or_false] at hj
      rcases hj with rfl | rfl | rfl | rfl | rfl | rfl <;> assumption⟩
    have hmod := hm0.trans hI.mod
    have hdf := hI.defers
    obtain ⟨tm, df⟩ := a
    dsimp only at hdf t0
    subst hdf
    clear hr hI l0 l1 l2 l3 l4 l5 l6 l7 l8 l9 l10 l11 l12 l13 l14 t2 t3 hsz hm0
    go_wp2_with fail
    exact bodyPost_ret (v := .map (some m)) (by simp [results, Try.results67, go_sem, t0]) rfl ⟨m, rfl, by omega, hmod, hall⟩
def sixB (k c s e : Int) : Bool := decide (c = 0 ∧ s = 0 ∧ (k = 0 ∧ e = 0 ∨ k = 2 ∧ e = 0 ∨ k = 3 ∧ e = 0 ∨ k = 4 ∧ (e = 11 ∨ e = 12 ∨ e = 13)))
theorem sixB_iff (k c s e : Int) : sixB k c s e = true ↔ ∃ j ∈ sixJ, vKey k c s e = kv j := by
  simp only [sixB, decide_eq_true_eq, sixJ, List.mem_cons, List.not_mem_nil, or_false, exists_eq_or_imp, exists_eq_left, kv, vKey, Value.agg.injEq, Array.mk.injEq, List.cons.injEq, Value.int.injEq, true_and, and_true, kOf]
  simp
  omega
/-- What is looked up in it. -/
theorem lookup_six {w : World} {m : Nat} (h : WordsAt w m (fun _ => True)) (k c s e : Int) : ∃ v : ByteArray, (Instr.lookup 111 (.map (some m)) (vKey k c s e) true).run Try.prog w = .ok (.tuple #[.string v, .bool (sixB k c s e)]) w := by
  obtain ⟨es, clock, hm, h1, h2⟩ := h
  obtain ⟨r, hr, hor⟩ := find_now h1 k c s e w
  have hz : (zeroValue 9).run Try.prog w = .ok (.string noStr) w := by kernel_rfl
  rcases hor with ⟨rfl, hn⟩ | ⟨n, j, rfl, hj, _, he⟩
  · refine ⟨noStr, ?_⟩
    have hq : sixB k c s e = false := by
      rw [Bool.eq_false_iff, ne_eq, sixB_iff]
      rintro ⟨j, hj, he⟩
      obtain ⟨x, hx, hk⟩ := h2 j hj trivial
      exact hn x hx (hk.trans he.symm)
    rw [hq]
    simp only [Instr.lookup, Sem.run_bind, run_underlying Try.underlying111, get_map hm, Result.andThen_ok, Sem.run_pure]
    rw [check_10000]
    simp only [Result.andThen_ok, hr, Sem.run_bind, hz]
    rfl
  · refine ⟨wOf j, ?_⟩
    have hq : sixB k c s e = true := (sixB_iff k c s e).2 ⟨j, hj, he⟩
    rw [hq]
    simp only [Instr.lookup, Sem.run_bind, run_underlying Try.underlying111, get_map hm, Result.andThen_ok, Sem.run_pure]
    rw [check_10000]
    simp only [Result.andThen_ok, hr, Sem.run_bind, hz]
    rfl
end Go.Proofs.Ytnoookcfacmdkaa

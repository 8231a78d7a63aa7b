/- A journal to which records come, and checkpoints between, crashes at any write, a sector torn: what is read again are the records that were acknowledged, or these and the one in flight; read twice it is the same, and reading writes nothing. No condition. -/
import Derived.Test.YtnjfgbbdfdoccaaRows
import Derived.WalkKit
import Derived.ProofKit
import Derived.OpenShut
import Derived.SizedLaws
import Derived.Carry
import Derived.Deep.MidRow
import Derived.Test.YtnjfgbbdfdoccaaKit
import Derived.Deep.Strs
import Derived.Test.YtnjfgbbdfdoccaaJzE
import Derived.Lib.SmallJoins
namespace Go.Proofs.Ytnjfgbbdfdoccaa
open Go.ChangeShapes Go.WideShapes Go.ChangeAt Go.RowKit
set_option linter.unusedSimpArgs false
set_option linter.unusedVariables false

theorem own : ownKnob Try.prog.godebug = none := by kernel_rfl
theorem laidOut : laidOutB Try.prog = true := by kernel_rfl
theorem trodAll_stays {H : Type} {enc : TypeId × Value → H} {P : Program} (hl : laidOutB P = true) {W W' : World} (hb : Below W.heap.size W W') : ∀ {ts : List TypeId} {vs : List Value} {ds : List (DataW H)} {ps : List MemPlace},
    (∀ t ∈ ts, P.readableRec t = true ∧ t < P.types.size) → DataW.TrodAll enc P W 0 (fun _ => true) true ts vs ds ps → (∀ p ∈ ps, p.block < W.heap.size) →
    DataW.TrodAll enc P W' 0 (fun b => decide (b < W.heap.size)) true ts vs ds ps
  | [], _, _, _, _, h, _ => by
    obtain ⟨rfl, rfl, rfl⟩ := trodAll_nil h
    exact trodAll_mk0
  | t :: ts, vs, ds, ps, hr, h, hlt => by
    obtain ⟨v, vs1, d, ds1, p, q, rfl, rfl, rfl, h1, h2⟩ := trodAll_cons h
    exact trodAll_cons_mk (Below.trod hl (hr t (by simp)).1 (hr t (by simp)).2 h1 hb (fun x hx => hlt x (by simp [hx])))
      (trodAll_stays hl hb (fun t ht => hr t (by simp [ht])) h2 (fun x hx => hlt x (by simp [hx])))
theorem law_post {H : Type} {enc : TypeId × Value → H} {fn : Func} {s : ChangeSpec} {W W' : World} {args : Array Value} {ds gs : List (DataW H)} {before : List MemPlace}
    (hr : ∀ t ∈ fn.params.toList, Try.prog.readableRec t = true ∧ t < Try.prog.types.size) (hW : DataW.Whole enc Try.prog fn.params.toList s.vars false W args.toList ds gs before) (hb : Below W.heap.size W W')
    (hv : s.vars = []) (hres : fn.resultTypes = #[4]) (hfn : s.fn H (ds ++ gs) = { results := [.lit (.bool true)], args := ds }) : s.post enc Try.prog fn false true false false W args (.bool true) W' := by
  have hlt := hW.lt
  have hW0 := hW
  obtain ⟨p, q, hA, hV, rfl, _, _⟩ := hW
  rw [hv] at hV
  obtain ⟨rfl, rfl⟩ := trodVars_none hV
  refine ⟨ds, [], p ++ [], [], p, [], hW0, ?_, ?_, ?_, hb.frame _, fun h => by cases h⟩
  · rw [hfn, hres]
    exact trodAll_cons_mk (shut_bool Try.underlying4 _) trodAll_mk0
  · rw [hfn]
    exact trodAll_stays laidOut hb hr hA (fun x hx => hlt x (by simp [hx]))
  · rw [hfn, hv]
    exact rfl
/-- An argument that is a slice of integers. -/
theorem ints_arg {P : Program} {H : Type} {enc : TypeId × Value → H} {W : World} {t e : TypeId} {k : IntKind} (ht : P.underlying t = some (.slice e)) (he : P.underlying e = some (.int k)) (hc : P.cellsOf e = 1) {v : Value} {d : DataW H} {ps : List MemPlace}
    (hv : ∃ a n c, v = .slice a n c) (h : DataW.Trod enc P W 0 (fun _ => true) true t v d ps) :
    ∃ (a : Option Addr) (l : List Int) (cap : Nat), v = .slice a l.length cap ∧ l.length ≤ maxLen ∧ (∀ n ∈ l, (Lit.int k n).wf = true) ∧ (l = [] ∨ ∃ b o, a = some ⟨b, o, none⟩ ∧ W.rangeAt b o (l.map (Value.int k))) := by
  obtain ⟨a, n, c, rfl⟩ := hv
  obtain ⟨fuel, hf⟩ := h
  rcases open_ints ht he hc hf with ⟨hcs, _⟩ | ⟨ad, len, cap, zs, hcs, _, hl, hm, hz, _, hcell, hwz⟩
  · simp [Value.cells] at hcs
    obtain ⟨rfl, rfl, rfl⟩ := hcs
    exact ⟨none, [], 0, rfl, by simp, by simp, .inl rfl⟩
  · simp [Value.cells] at hcs
    obtain ⟨rfl, rfl, rfl⟩ := hcs
    have hzl : zs.length = c := by simpa using hz
    have htl : (zs.take n).length = n := by simp; omega
    refine ⟨some ad, zs.take n, c, by rw [htl], by rw [htl]; omega, fun x hx => hwz x (List.mem_of_mem_take hx), ?_⟩
    by_cases hn : n = 0
    · left; simp [hn]
    · right
      have h0 := hcell 0 (by omega)
      obtain ⟨b, o, sp⟩ := ad
      have hsp : sp = none := by
        have e0 : (⟨b, o, sp⟩ : Addr).add 0 = ⟨b, o, sp⟩ := rfl
        rw [e0] at h0
        cases sp with
        | none => rfl
        | some s =>
          simp only [World.cell?] at h0
          split at h0 <;> simp at h0
      subst hsp
      refine ⟨b, o, rfl, fun j v hj => ?_⟩
      have hjn : j < n := by
        have := (List.getElem?_eq_some_iff.1 hj).1
        simp at this
        omega
      have := hcell j (by omega)
      rw [Addr.add_mid] at this
      rw [this, ← hj]
      have hjz : j < zs.length := by omega
      simp [List.getElem?_take, hjn, hjz]
end Go.Proofs.Ytnjfgbbdfdoccaa
namespace Go.Proofs.Ytnjfgbbdfdoccaa
open Go.ChangeShapes Go.WideShapes Go.ChangeAt Go.RowKit Go.Deep
set_option linter.unusedSimpArgs false
set_option linter.unusedVariables false

section
variable {H : Type} {enc : TypeId × Value → H} {P : Program} {w : World}
/-- Each string, slice and map of a datum is within the reach. -/
def Lite (P : Program) (t : TypeId) (d : DataW H) : Prop := ∀ n ∈ d.weights P t, n ≤ reachBytes
theorem Lite.of {ts : List TypeId} {ds : List (DataW H)} (h : (DataW.weightsEach P ts ds).all (· ≤ reachBytes) = true) {j : Nat} {t : TypeId} {d : DataW H} (ht : ts[j]? = some t) (hd : ds[j]? = some d) : Lite P t d := fun n hn => by
  have := List.all_eq_true.1 h n (DataW.weights_mem_each ht hd n hn)
  simpa using this
theorem weightsAll_mem {e : TypeId} : ∀ {ds : List (DataW H)} {d : DataW H} {n : Nat}, d ∈ ds → n ∈ d.weights P e → n ∈ DataW.weightsAll P e ds
  | x :: r, d, n, hd, hn => by
    simp only [DataW.weightsAll, List.mem_append]
    rcases List.mem_cons.1 hd with rfl | hd
    · exact .inl hn
    · exact .inr (weightsAll_mem hd hn)
theorem Lite.elem {t e : TypeId} (ht : P.underlying t = some (.slice e)) {l r : List (DataW H)} (h : Lite P t (.slice l r)) {d : DataW H} (hd : d ∈ l) : Lite P e d := fun n hn => by
  refine h n ?_
  simp only [DataW.weights, ht, List.mem_cons, List.mem_append]
  exact .inr (.inl (weightsAll_mem hd hn))
theorem Lite.len {t e : TypeId} (ht : P.underlying t = some (.slice e)) {l r : List (DataW H)} (h : Lite P t (.slice l r)) : (l.length + r.length) * P.bytesOf e ≤ reachBytes := by
  refine h _ ?_
  simp [DataW.weights, ht]
theorem Lite.field {t : TypeId} {fs : Array Field} (ht : P.underlying t = some (.struct fs)) {l : List (DataW H)} (h : Lite P t (.agg l)) {j : Nat} {f : Field} {d : DataW H} (hf : fs[j]? = some f) (hd : l[j]? = some d) : Lite P f.type d := fun n hn => by
  refine h n ?_
  simp only [DataW.weights, ht]
  exact DataW.weights_mem_each (by simp [hf]) hd n hn
theorem Lite.str {t : TypeId} {bs : List UInt8} (h : Lite P t (.lit (.string bs) : DataW H)) : bs.length ≤ reachBytes := h _ (by simp [DataW.weights])
theorem range_of_cells {base : Nat} {a : Addr} {n : Nat} {cs : List Value} (h : w.cells? base a n = some cs) (hn : 0 < n) : ∃ b o, a = ⟨b, o, none⟩ ∧ w.rangeAt b o cs ∧ cs.length = n := by
  obtain ⟨_, hl, hc⟩ := World.cells?_some h
  obtain ⟨b, o, sp⟩ := a
  have h0 := hc 0 hn
  have e0 : (⟨b, o, sp⟩ : Addr).add 0 = ⟨b, o, sp⟩ := rfl
  rw [e0] at h0
  have hsp : sp = none := by
    cases sp with
    | none => rfl
    | some s =>
      simp only [World.cell?] at h0
      have : cs[0]? ≠ none := by rw [List.getElem?_eq_getElem (by omega)]; simp
      split at h0 <;> first | exact absurd h0.symm this | simp_all
  subst hsp
  refine ⟨b, o, rfl, fun j v hj => ?_, hl⟩
  have hjn := (List.getElem?_eq_some_iff.1 hj).1
  have := hc j (by omega)
  rw [Addr.add_mid] at this
  rw [this, hj]
/-- A slice, opened: each element's cells, and what it reads as. -/
theorem slice_cells {t e : TypeId} (ht : P.underlying t = some (.slice e)) (hc : 0 < P.cellsOf e) {fuel : Nat} {cs : List Value} {d : DataW H} {ps : List MemPlace} (h : DataW.trod enc P w 0 (fun _ => true) true fuel t cs = some (d, ps)) (hw : Lite P t d) :
    ∃ (a : Option Addr) (len cap : Nat) (n : Nat), cs = [.slice a len cap] ∧ len ≤ cap ∧ cap ≤ maxLen ∧ cap * P.bytesOf e ≤ reachBytes ∧ (a = none → len = 0 ∧ cap = 0) ∧
      ∀ i, i < cap → ∃ b o xs di pl, a = some ⟨b, o, none⟩ ∧ w.rangeAt b (o + i * P.cellsOf e) xs ∧ xs.length = P.cellsOf e ∧ DataW.trod enc P w 0 (fun _ => true) true n e xs = some (di, pl) ∧ (i < len → Lite P e di) := by
  rcases open_slice ht h with ⟨rfl, h2⟩ | ⟨a, len, cap, m, n, D, Pl, rfl, _, hl, hm, hmm, hx, hi⟩
  · exact ⟨none, 0, 0, 0, rfl, Nat.le_refl _, Nat.zero_le _, by omega, fun _ => ⟨rfl, rfl⟩, fun i hi => by omega⟩
  · simp only [if_true] at hmm
    subst hmm
    obtain ⟨rfl, rfl⟩ := Prod.mk.inj hx
    refine ⟨some a, len, m, n, rfl, hl, hm, ?_, fun h => (by cases h), fun i hlt => ?_⟩
    · have := hw.len ht
      simpa [show len + (m - len) = m by omega] using this
    · obtain ⟨xs, h1, h2⟩ := hi i hlt
      obtain ⟨b, o, ha, hr, hl'⟩ := range_of_cells h1 hc
      obtain ⟨xs0, h10, _⟩ := hi 0 (by omega)
      obtain ⟨b0, o0, ha0, _, _⟩ := range_of_cells h10 hc
      rw [Nat.zero_mul] at ha0
      have ha00 : a = ⟨b0, o0, none⟩ := ha0
      subst ha00
      rw [Addr.add_mid] at ha
      simp only [Addr.mk.injEq] at ha
      obtain ⟨rfl, rfl, _⟩ := ha
      exact ⟨b0, o0, xs, D i, Pl i, rfl, hr, hl', h2, fun hil => hw.elem ht (List.mem_map.2 ⟨i, List.mem_range.2 hil, rfl⟩)⟩
/-- .. of ints. -/
theorem ints_cells {t e : TypeId} {k : IntKind} (ht : P.underlying t = some (.slice e)) (he : P.underlying e = some (.int k)) (hc : P.cellsOf e = 1) {fuel : Nat} {cs : List Value} {d : DataW H} {ps : List MemPlace} (h : DataW.trod enc P w 0 (fun _ => true) true fuel t cs = some (d, ps)) (hw : Lite P t d) :
    ∃ (a : Option Addr) (l : List Int) (cap : Nat), cs = [.slice a l.length cap] ∧ l.length ≤ cap ∧ cap ≤ maxLen ∧ cap * P.bytesOf e ≤ reachBytes ∧ (∀ n ∈ l, (Lit.int k n).wf = true) ∧ (l = [] ∨ ∃ b o, a = some ⟨b, o, none⟩ ∧ w.rangeAt b o (l.map (Value.int k))) := by
  obtain ⟨a, len, cap, n, rfl, hl, hm, hb, h0, hi⟩ := slice_cells ht (by omega) h hw
  rw [hc] at hi
  have each : ∀ i, i < len → ∃ z : Int, (Lit.int k z).wf = true ∧ ∃ b o, a = some ⟨b, o, none⟩ ∧ w.cell? ⟨b, o + i, none⟩ = some (.int k z) := fun i hlt => by
    obtain ⟨b, o, xs, di, pl, ha, hr, hlen, htr, _⟩ := hi i (by omega)
    obtain ⟨z, rfl, _, hz⟩ := DataW.trod_int he htr
    refine ⟨z, hz, b, o, ha, ?_⟩
    have := hr 0 _ rfl
    simpa using this
  obtain ⟨Z, hZ⟩ := choose_lt each
  refine ⟨a, (List.range len).map Z, cap, by simp, by simpa using hl, hm, hb, ?_, ?_⟩
  · intro n hn
    obtain ⟨i, hi, rfl⟩ := List.mem_map.1 hn
    exact (hZ i (List.mem_range.1 hi)).1
  · by_cases h0 : len = 0
    · subst h0; exact .inl rfl
    · right
      obtain ⟨_, b, o, ha, _⟩ := hZ 0 (by omega)
      refine ⟨b, o, ha, fun j v hj => ?_⟩
      have hjl := (List.getElem?_eq_some_iff.1 hj).1
      simp at hjl
      obtain ⟨_, b', o', ha', hc'⟩ := hZ j hjl
      rw [ha] at ha'
      simp at ha'
      obtain ⟨rfl, rfl⟩ := ha'
      rw [hc', ← hj]
      simp [hjl]
end
theorem i64_le {n : Int} (h : (Lit.int .i64 n).wf = true) : -9223372036854775808 ≤ n ∧ n ≤ 9223372036854775807 := bounds_i64 h
end Go.Proofs.Ytnjfgbbdfdoccaa
namespace Go.Proofs.Ytnjfgbbdfdoccaa
open Go.RowKit Go.ChangeMaps
set_option linter.unusedSimpArgs false
set_option linter.unusedVariables false
set_option maxRecDepth 20000

set_option maxHeartbeats 32000000 in
theorem crash_walk {w : World} {a : Option Addr} {L : List OpJ} {cap : Nat} (n after : Int) {ta : Option Addr} {tc : Nat} {T : List Int} (h : OpsJ w a L) (hl : L.length ≤ 140737488355328) (hT : RowAt enc8 w (.slice ta T.length tc) T) (hTb : IsB T) (hTl : T.length ≤ 140737488355328) (hA : after ≤ 9223372036854775807) :
    Calls Try.prog 4 #[.int .i64 n, .slice a L.length cap, .int .i64 after, .slice ta T.length tc] w fun e w' => e = .returned (.bool true) ∧ Mod [] w w' := by
  have H := Lib.hid h
  have HT := Lib.hid hT
  have HTB := Lib.hid hTb
  have CG := Lib.hid (great_at (cap := cap) n h hl)
  clear h hT hTb
  obtain ⟨tn, htn⟩ : ∃ tn, T.length = tn := ⟨_, rfl⟩
  have HTN := Lib.hid htn
  rw [htn]
  rw [htn] at hTl
  clear htn
  go_enter Try.func4, Try.ntmps4
  go_wp2_with fail
  refine CG.out.mono ?_
  rintro e w1 ⟨r, rfl, m1, hf⟩
  have HM1 := Lib.hid m1
  have CK := Lib.hid (known_at w1)
  have HKN := Lib.hid known_at
  clear CG m1
  by_cases hr : r = true
  · subst hr
    clear hf
    go_wp2_with fail
    refine CK.out.mono ?_
    rintro e w2 ⟨rfl, m2⟩
    have HE := Lib.hid (HM1.out.trans m2)
    clear m2
    go_wp2_with fail
    go_ret
    exact ⟨rfl, HE.out⟩
  obtain rfl : r = false := by simpa using hr
  by_cases h8 : n < 8
  · have d1 : decide (n < 8) = true := decide_eq_true h8
    clear hf
    go_wp2_with fail
    refine CK.out.mono ?_
    rintro e w2 ⟨rfl, m2⟩
    have HE := Lib.hid (HM1.out.trans m2)
    clear m2
    go_wp2_with fail
    go_ret
    exact ⟨rfl, HE.out⟩
  have d1 : decide (n < 8) = false := decide_eq_false h8
  by_cases h300 : 300 < n
  · have d2 : decide (300 < n) = true := decide_eq_true h300
    clear hf
    go_wp2_with fail
    refine CK.out.mono ?_
    rintro e w2 ⟨rfl, m2⟩
    have HE := Lib.hid (HM1.out.trans m2)
    clear m2
    go_wp2_with fail
    go_ret
    exact ⟨rfl, HE.out⟩
  have d2 : decide (300 < n) = false := decide_eq_false h300
  by_cases ha0 : after < 0
  · have d3 : decide (after < 0) = true := decide_eq_true ha0
    clear hf
    go_wp2_with fail
    refine CK.out.mono ?_
    rintro e w2 ⟨rfl, m2⟩
    have HE := Lib.hid (HM1.out.trans m2)
    clear m2
    go_wp2_with fail
    go_ret
    exact ⟨rfl, HE.out⟩
  have d3 : decide (after < 0) = false := decide_eq_false ha0
  by_cases h64 : ¬ tn = 64
  · have d4 : ((tn : Int) != 64) = true := by simp; omega
    clear hf
    go_wp2_with fail
    refine CK.out.mono ?_
    rintro e w2 ⟨rfl, m2⟩
    have HE := Lib.hid (HM1.out.trans m2)
    clear m2
    go_wp2_with fail
    go_ret
    exact ⟨rfl, HE.out⟩
  obtain rfl : tn = 64 := by simpa using h64
  have d4 : ((64 : Int) != 64) = false := by decide
  have HT := Lib.hid (show RowAt enc8 w (.slice ta 64 tc) T from by have := HT.out; rwa [HTN.out] at this)
  obtain ⟨hL60, hL3⟩ := hf.out rfl
  have HL3 := Lib.hid hL3
  obtain ⟨base, hbase⟩ : ∃ base, w1.heap.size = base := ⟨_, rfl⟩
  have HBS := Lib.hid hbase
  have CN := Lib.hid (new_yes n w1 (by omega) (by omega))
  rw [hbase] at CN
  obtain ⟨R0, R1, R2, R3⟩ := fmt_room (n := n) (by omega) (by omega)
  have HR := Lib.hid (⟨R0, R1, R2, R3⟩ : _ ∧ _ ∧ _ ∧ _)
  have HBW := Lib.hid (show w.heap.size ≤ base from by have := HM1.out.size; omega)
  clear hf hr hbase CK R0 R1 R2 R3 hL3 h64
  go_wp2_with fail
  refine CN.out.mono ?_
  rintro e w2 ⟨rfl, m2, hd⟩
  have hs2 : base + 2 ≤ w2.heap.size := by have := lt_of_heap hd.blk; omega
  have HM2 := Lib.hid (HM1.out.trans m2)
  -- the document's disk
  obtain ⟨w3, hAl, kA, zA, mA⟩ := alloc_named2 w2 (.cells #[.int .i64 n, .slice none 0 0, .int .i64 0, .bool false, .bool false, .int .i64 0, .string ⟨#[]⟩] 46)
  obtain ⟨b, hbE⟩ : ∃ b, w2.heap.size = b := ⟨_, rfl⟩
  rw [hbE] at kA
  have hDk3 : DkAt w3 b (Rk.new n) := ⟨.slice none 0 0, b + 1, ⟨kA, ⟨⟨none, 0, rfl, .inl rfl⟩, fun j u hu => by simp [rowCells, Rk.new] at hu, by simp [Rk.new], .inl rfl⟩, by show 0 ≤ (0 : Int) ∧ (0 : Int) ≤ _; omega⟩, by omega⟩
  have hd3 := hd.kept mA (by simp) (by simp)
  have CF := Lib.hid (jFormat_at hd3 (base := base) ⟨by show 8 ≤ n; omega, by show n ≤ 65536; omega⟩ ⟨by omega, Nat.le_refl _, by omega⟩ ⟨Int.le_refl 0, by show (0 : Int) ≤ _; decide⟩ HR.out.1)
  have HDK := Lib.hid hDk3
  have HD3 := Lib.hid hd3
  have HM3 := Lib.hid (HM2.out.trans mA)
  have HB := Lib.hid (show base + 2 ≤ b ∧ b < w3.heap.size from ⟨by omega, by omega⟩)
  have HAl := Lib.hid hAl
  have HbE := Lib.hid hbE
  clear CN m2 hd hs2 hAl kA zA mA hbE hDk3 hd3
  go_wp2_with fail
  try rw [HbE.out]
  rw [HAl.out]
  refine CF.out.mono ?_
  rintro e w4 ⟨j, rfl, hj, m4⟩
  have HJ := Lib.hid hj
  have HDK4 := Lib.hid (HDK.out.kept m4 (by simp; have := HB.out; omega) (fun k hk cs f hc => by
    simp only [List.mem_cons, List.not_mem_nil, or_false] at hk
    have ht : JT w3 k := by
      rcases hk with rfl | rfl
      · exact HD3.out.jt.1
      · exact HD3.out.jt.2
    have := ht cs _ f hc
    revert this; decide))
  have HM4 := Lib.hid (show Mod [] w w4 from Mod.into' HM3.out m4 (fun k hk => by
    have := HBW.out
    simp at hk
    rcases hk with rfl | rfl <;> exact .inl (by omega)))
  have HB4 := Lib.hid (show base + 2 ≤ b ∧ b < w4.heap.size from ⟨HB.out.1, Nat.lt_of_lt_of_le HB.out.2 m4.size⟩)
  obtain ⟨t1, t2, t3⟩ := does_tie fmtPlan (J := fmtJ) (D := Dk.new n) (R := Rk.new n) rfl (Same.new n (by omega))
  have hd0 : ((Rk.new n).does fmtPlan).1 = 0 := by rw [← t1]; exact HR.out.1
  have CM := Lib.hid (mjFormat_at HDK4.out ⟨by show 8 ≤ n; omega, by show n ≤ 65536; omega⟩ (by show 0 ≤ 65536; omega) ⟨Int.le_refl 0, by show (0 : Int) ≤ _; decide⟩)
  rw [hd0] at CM
  have HTIE := Lib.hid t2
  clear hj m4 CF t1 t2 t3 hd0 HDK HAl HbE HB HM3
  go_wp2_with fail
  refine CM.out.mono ?_
  rintro e w5 ⟨jm, rfl, hjm, hM5, m5⟩
  have HJ5 := Lib.hid (show JAt w5 base j (base + 1) base (fmtJ.writes (Dk.new n) fmtPlan).2.1 (fmtJ.writes (Dk.new n) fmtPlan).2.2 from HJ.out.kept m5 (fun hk => by
      simp only [List.mem_singleton] at hk
      obtain ⟨v0, e0⟩ := HDK4.out.cell
      have := HJ.out.jblk.1 _ _ _ (by rw [hk]; exact e0)
      revert this; decide) (by simp; have := HB4.out; omega) (by simp; have := HB4.out; omega) (fun k hk cs E f hc => by
      simp only [List.mem_singleton] at hk
      subst hk
      obtain ⟨v0, e0⟩ := HDK4.out.cell
      rw [e0] at hc
      simp only [Option.some.injEq, Obj.cells.injEq] at hc
      rw [← hc.2.1]; decide))
  have HMA5 := Lib.hid hM5
  have HM5 := Lib.hid (show Mod [] w w5 from Mod.into' HM4.out m5 (fun k hk => .inl (by simp at hk; have := HB4.out; have := HBW.out; omega)))
  have HG := Lib.hid (show base ≤ w4.heap.size ∧ w4.heap.size ≤ w5.heap.size ∧ w4.heap.size ≤ jm from ⟨by have := HB4.out; omega, m5.size, hjm⟩)
  clear hjm hM5 m5 CM HJ HDK4 HM4
  have CC := Lib.hid (crash_any HJ5.out.disk after (HT.out.kept0 HM5.out).bytes (by rw [HTN.out]; unfold maxLen; omega) hA)
  go_wp2_with fail
  refine CC.out.mono ?_
  rintro e w6 ⟨rfl, m6, hd6⟩
  have HJ6 := Lib.hid (HJ5.out.turn (m6.mono (by simp)) hd6)
  have HMA6 := Lib.hid (HMA5.out.kept m6 (fun hk => by
      simp only [List.mem_singleton] at hk
      have := HG.out; have := HB4.out; omega) (by simp; have := HB4.out; omega) (fun k hk cs E f hc => by
      simp only [List.mem_singleton] at hk
      subst hk
      rw [HJ5.out.disk.blk] at hc
      simp only [Option.some.injEq, Obj.cells.injEq] at hc
      rw [← hc.2.1]; decide))
  have HM6 := Lib.hid (show Mod [] w w6 from Mod.into' HM5.out m6 (fun k hk => .inl (by simp at hk; have := HBW.out; omega)))
  have HG6 := Lib.hid (show base ≤ w4.heap.size ∧ w4.heap.size ≤ w6.heap.size ∧ w4.heap.size ≤ jm from ⟨HG.out.1, Nat.le_trans HG.out.2.1 m6.size, HG.out.2.2⟩)
  obtain ⟨rv, rg, hR6, hne6⟩ := HMA6.out.disk
  have CR := Lib.hid (rcrash_any hR6 hne6 after (HT.out.kept0 HM6.out).bytes (by rw [HTN.out]; unfold maxLen; omega) hA)
  clear m6 hd6 CC HJ5 HMA5 HM5 HG hR6
  go_wp2_with fail
  refine CR.out.mono ?_
  rintro e w7 ⟨rfl, m7, hR7⟩
  have HMA7 := Lib.hid (HMA6.out.turn m7 ⟨rv, rg, hR7, hne6⟩)
  have HJ7 := Lib.hid (show JAt w7 base j (base + 1) base (fmtJ.writes (Dk.new n) fmtPlan).2.1 ((fmtJ.writes (Dk.new n) fmtPlan).2.2.crash after T).2 from HJ6.out.mmod HMA6.out (m7.mono (by simp)))
  have HM7 := Lib.hid (show Mod [] w w7 from Mod.into' HM6.out m7 (fun k hk => .inl (by simp at hk; have := HBW.out; have := HB4.out; omega)))
  have HLV := Lib.hid (live_first (by omega) (by omega) after (by omega) HTN.out HTB.out HJ7.out HMA7.out HM7.out (by have := HG6.out; have := m7.size; omega))
  have HGB := Lib.hid (show w.heap.size ≤ base ∧ w.heap.size ≤ b ∧ w.heap.size ≤ jm from ⟨HBW.out, by have := HBW.out; have := HB4.out; omega, by have := HBW.out; have := HG6.out; omega⟩)
  have h8' : 8 ≤ n := by omega
  have h300' : n ≤ 300 := by omega
  clear m7 hR7 hne6 CR HMA6 HJ6 HM6 HMA7 HJ7 HM7 HG6 HTIE HR HBS HM1 HM2 HB4 HD3
  go_wp2_with fail
  go_loopw [16, 17, 20, 95] (fun s16 s17 s20 s95 W => ∃ i : Nat, i ≤ L.length ∧ s95 = .int .i64 i ∧ ∃ (fa : Option Addr) (fn fc : Nat) (ka : Option Addr) (kn kc : Nat), s16 = .slice fa fn fc ∧ s17 = .slice ka kn kc ∧ ((Hid (∃ M R D, LiveAt w W base j b jm w4.heap.size n T i M R D (.slice ka kn kc)) ∧ fa = none ∧ fn = 0 ∧ fc = 0) ∨ Hid (∃ M R D A F fl, DeadAt w W base b jm w4.heap.size n T M R D (.slice ka kn kc) (.slice fa fn fc) A F fl))) (fun _ _ _ s95 _ => L.length - (intOf s95).toNat)
  case atStart => exact ⟨0, by omega, rfl, none, 0, 0, none, 0, 0, rfl, rfl, .inl ⟨Lib.hid ⟨_, _, _, HLV.out⟩, rfl, rfl, rfl⟩⟩
  case round =>
    clear HLV
    obtain ⟨i, hi, rfl, fa, fn, fc, ka, kn, kc, rfl, rfl, hst⟩ := hrel
    by_cases hlt : i < L.length
    · obtain ⟨q, hq⟩ : ∃ q, L[i]? = some q := ⟨L[i], List.getElem?_eq_getElem hlt⟩
      obtain ⟨ba, oa, rfl, hop⟩ := H.out.each i q hq
      have hmodW : Mod [] w wr := by
        rcases hst with ⟨hL, _⟩ | hD
        · obtain ⟨M, R, D, hL⟩ := hL.out; exact hL.mod
        · obtain ⟨M, R, D, A, F, fl, hD⟩ := hD.out; exact hD.mod
      obtain ⟨p0, p1, p2, p3⟩ := (hop.kept0 hmodW).cs
      obtain ⟨va, vc, hv⟩ := hop.row.form
      rw [hv] at p3
      have hq3 := HL3.out q (List.mem_of_getElem? hq)
      obtain ⟨ql, hql⟩ : ∃ ql, q.l.length = ql := ⟨_, rfl⟩
      have HOP := Lib.hid hop
      have HV := Lib.hid hv
      rw [hql] at p3 hq3
      have HQL := Lib.hid hql
      obtain ⟨x1, hAl, kA, zA, mA⟩ := alloc_named2 wr (.cells #[.int .i64 q.kind, .int .i64 q.at_, .int .i64 q.after, .slice va ql vc] 35)
      obtain ⟨g, hgE⟩ : ∃ g, wr.heap.size = g := ⟨_, rfl⟩
      rw [hgE] at kA
      have HBX := Lib.hid kA
      have HAl := Lib.hid hAl
      have HGE := Lib.hid hgE
      have HMX := Lib.hid mA
      have HMW := Lib.hid hmodW
      have d5 : decide ((i : Int) < (L.length : Int)) = true := decide_eq_true (by omega)
      clear hop hv hq hql hAl kA zA mA hgE hmodW
      rcases hst with ⟨hL, rfl, rfl, rfl⟩ | hD
      · obtain ⟨M, R, D, hLV⟩ := hL.out
        have HLV := Lib.hid (hLV.kept0 HMX.out)
        have CD := Lib.hid (down_any HLV.out.jat.disk)
        rw [HLV.out.live.down] at CD
        clear hL hLV
        go_wp2_with fail
        rw [HAl.out, HGE.out]
        refine CD.out.mono ?_
        rintro e w9 ⟨rfl, rfl⟩
        have b0 := cell_blk HBX.out 0
        have b3 := cell_blk HBX.out 3
        simp only [List.getElem?_toArray, List.getElem?_cons_succ, List.getElem?_cons_zero] at b0 b3
        clear CD p0 p1 p2 p3 HAl HGE
        by_cases hk2 : q.kind = 2
        · have hk3 : (q.kind == 2) = true := by simpa using hk2
          have CC1 := Lib.hid (live_check1 HLV.out (by omega) HGB.out.1)
          obtain ⟨c, hc⟩ : ∃ c, (M.jk.check D).1 = c := ⟨_, rfl⟩
          have HC := Lib.hid hc
          rw [hc] at CC1
          clear hk2 hc
          go_wp2_with fail
          refine CC1.out.mono ?_
          rintro e y1 ⟨rfl, hm⟩
          have CC2 := Lib.hid (live_check2 HLV.out (by omega) h300' HGB.out.2 hm)
          rw [HC.out] at CC2
          clear hm CC1
          go_wp2_with fail
          refine CC2.out.mono ?_
          rintro e y2 ⟨⟨x, rfl⟩, ho⟩
          rcases ho with ⟨hc, ho⟩ | ⟨rfl, ho⟩
          · have hc2 : (c == 16) = false := by simpa using hc
            have HOX := Lib.hid ho
            clear ho hc CC2
            obtain ⟨M2, R2, D2, hLV2⟩ := HOX.out
            have CE := Lib.hid (down_any hLV2.jat.disk)
            rw [hLV2.live.down] at CE
            have HLX := Lib.hid hLV2
            clear hLV2
            go_wp2_with fail
            refine CE.out.mono ?_
            rintro e z9 ⟨rfl, rfl⟩
            go_wp2_with fail
            go_roundw
            case rel => exact ⟨i + 1, by omega, by go_num, none, 0, 0, ka, kn, kc, rfl, rfl, .inl ⟨Lib.hid ⟨_, _, _, HLX.out⟩, rfl, rfl, rfl⟩⟩
            case measure => simp [intOf]; omega
          · have HOX := Lib.hid (show ∃ M R D A F fl, DeadAt w y2 base b jm w4.heap.size n T M R D (.slice ka kn kc) (.slice none 0 0) A F fl from by obtain ⟨M2, R2, D2, A2, h2⟩ := ho; exact ⟨_, _, _, _, _, _, h2⟩)
            clear ho CC2
            obtain ⟨M2, R2, D2, A2, F2, fl2, hDD⟩ := HOX.out
            have CE := Lib.hid (down_any hDD.disk)
            obtain ⟨okp, hCr, _⟩ := hDD.ok
            rw [hCr.down] at CE
            have HDX := Lib.hid hDD
            clear hDD hCr
            go_wp2_with fail
            refine CE.out.mono ?_
            rintro e z9 ⟨rfl, rfl⟩
            go_wp2_with fail
            go_roundw
            case rel => exact ⟨i + 1, by omega, by go_num, none, 0, 0, ka, kn, kc, rfl, rfl, .inr (Lib.hid ⟨_, _, _, _, _, _, HDX.out⟩)⟩
            case measure => simp [intOf]; omega
        · have hk3 : (q.kind == 2) = false := by simpa using hk2
          have hrow1 : RowAt enc8 x1 (.slice va ql vc) q.l := by have := HOP.out.row.kept0 (HMW.out.trans HMX.out); rw [HV.out, HQL.out] at this; exact this
          have CA1 := Lib.hid (live_append1 HLV.out (by omega) HGB.out.1 hrow1 HQL.out (by rw [HQL.out]; exact hq3) HOP.out.isb (fun hne bb o k c' e => by
            have h1 := HOP.out.row.below hne bb o k c' (by rw [HV.out, HQL.out]; exact e)
            have h2 := HGB.out.1
            omega))
          obtain ⟨c, hc⟩ : ∃ c, (M.jk.append D q.l).1 = c := ⟨_, rfl⟩
          have HC := Lib.hid hc
          rw [hc] at CA1
          have HGN := Lib.hid (show g ≠ jm ∧ g ≠ b from by
            refine ⟨fun e => ?_, fun e => ?_⟩
            · obtain ⟨⟨lv, av, e1, _⟩, _⟩ := HLV.out.mat
              rw [← e, HBX.out] at e1
              simp only [Option.some.injEq, Obj.cells.injEq] at e1
              exact absurd e1.2.1 (by decide)
            · obtain ⟨v0, e1⟩ := HLV.out.mat.disk.cell
              rw [← e, HBX.out] at e1
              simp only [Option.some.injEq, Obj.cells.injEq] at e1
              exact absurd e1.2.1 (by decide))
          clear hk2 hc hrow1
          go_wp2_with fail
          refine CA1.out.mono ?_
          rintro e y1 ⟨rfl, hm, hjm1⟩
          have HBX1 := Lib.hid (hjm1.heap HBX.out (by decide))
          have b3 := cell_blk HBX1.out 3
          simp only [List.getElem?_toArray, List.getElem?_cons_succ, List.getElem?_cons_zero] at b3
          have hrow2 : RowAt enc8 y1 (.slice va ql vc) q.l := by have := HOP.out.row.kept0 hm.mod; rw [HV.out, HQL.out] at this; exact this
          have HCV := Lib.hid (conv_bytes hrow2.bytes)
          have CA2 := Lib.hid (live_append2 HLV.out (by omega) HGB.out.1 HGB.out.2 (by rw [HQL.out]; exact hq3) HOP.out.isb hm)
          rw [HC.out] at CA2
          clear hm hjm1 CA1 hrow2 b0
          go_wp2_with ((with_reducible refine xConvertAt rfl HCV.out ?_ ?_ ?_); exact rfl; exact rfl)
          refine CA2.out.mono ?_
          rintro e y2 ⟨⟨x, rfl⟩, ho, hmy, hmm⟩
          have HBX2 := Lib.hid (hmm.heap HBX1.out (by simp; exact ⟨HGN.out.1, HGN.out.2⟩))
          have b3 := cell_blk HBX2.out 3
          simp only [List.getElem?_toArray, List.getElem?_cons_succ, List.getElem?_cons_zero] at b3
          have hrow3 : RowAt enc8 y2 (.slice va ql vc) q.l := by have := HOP.out.row.kept0 hmy; rw [HV.out, HQL.out] at this; exact this
          have HCV := Lib.hid (conv_bytes hrow3.bytes)
          have HR3 := Lib.hid hrow3
          clear hrow3 hmy hmm CA2
          rcases ho with ⟨rfl, o1, o2, o3, o4⟩ | ⟨hc, ho⟩ | ⟨rfl, o1, o2, o3, o4⟩
          · obtain ⟨v', w', ra, ho', gr⟩ := own_append1 (P := Try.prog) (ty := 32) elemStr encStr_len encStr_one o1 o2 (strOfNums q.l) (by rw [List.length_map]; omega) (by omega)
            dsimp only [encStr] at ra
            obtain ⟨a', n', c', rfl⟩ : ∃ a n c, v' = .slice a n c := by obtain ⟨a, c, e⟩ := ho'.lens; exact ⟨a, _, c, e⟩
            have HRA := Lib.hid ra
            have HOX := Lib.hid (o4 w' _ (by rw [List.map_append, List.map_singleton]; exact ho') gr)
            clear ra ho' gr o1 o2 o3 o4
            go_wp2_with (first | ((with_reducible refine xConvertAt rfl HCV.out ?_ ?_ ?_); exact rfl; exact rfl) | ((with_reducible refine xAppendAt HRA.out rfl rfl ?_ ?_ ?_ ?_); exact rfl; exact rfl; exact rfl))
            obtain ⟨M2, R2, D2, hLV2⟩ := HOX.out
            have CE := Lib.hid (down_any hLV2.jat.disk)
            rw [hLV2.live.down] at CE
            have HLX := Lib.hid hLV2
            clear hLV2
            go_wp2_with fail
            refine CE.out.mono ?_
            rintro e z9 ⟨rfl, rfl⟩
            go_wp2_with fail
            go_roundw
            case rel => exact ⟨i + 1, by omega, by go_num, none, 0, 0, a', n', c', rfl, rfl, .inl ⟨Lib.hid ⟨_, _, _, HLX.out⟩, rfl, rfl, rfl⟩⟩
            case measure => simp [intOf]; omega
          · have t1 : (c == 0) = false := by simp; omega
            have t2 : (c == 16) = false := by simp; omega
            have HOX := Lib.hid ho
            clear ho hc
            obtain ⟨M2, R2, D2, hLV2⟩ := HOX.out
            have CE := Lib.hid (down_any hLV2.jat.disk)
            rw [hLV2.live.down] at CE
            have HLX := Lib.hid hLV2
            clear hLV2
            go_wp2_with fail
            refine CE.out.mono ?_
            rintro e z9 ⟨rfl, rfl⟩
            go_wp2_with fail
            go_roundw
            case rel => exact ⟨i + 1, by omega, by go_num, none, 0, 0, ka, kn, kc, rfl, rfl, .inl ⟨Lib.hid ⟨_, _, _, HLX.out⟩, rfl, rfl, rfl⟩⟩
            case measure => simp [intOf]; omega
          · have HO1 := Lib.hid o1
            have HO2 := Lib.hid o2
            have HO3 := Lib.hid o3
            have HO4 := Lib.hid o4
            have HB3 := Lib.hid b3
            clear o1 o2 o3 o4
            go_upto_region 26 with fail
            go_cut [16] from 127 to 134 (fun s16 wx => ∃ (fa : Option Addr) (fn fc : Nat), s16 = .slice fa fn fc ∧ Hid (∃ M R D A F fl, DeadAt w wx base b jm w4.heap.size n T M R D (.slice ka kn kc) (.slice fa fn fc) A F fl))
            case first =>
              refine wp_sched (by kernel_rfl) (sched_either 0 6 (by decide) (sched_either 2 6 (by decide) (sched_plan2 [([1, 3, 4, 5], 0, [3, 4, 5]), ([], 2, [3, 4, 5]), ([], 6, []), ([], 7, [])] [8] (by kernel_rfl) ?L1) (sched_plan2 [([1, 3, 4, 5], 0, [3, 4, 5]), ([], 6, []), ([], 2, [3, 4, 5]), ([], 7, [])] [8] (by kernel_rfl) ?L2)) (sched_plan1 [([1, 3, 4, 5], 6, []), ([], 0, [3, 4, 5]), ([], 2, [3, 4, 5]), ([], 7, [])] [8] (by kernel_rfl) ?L3))
              case L1 =>
                simp only [wpSegs, opsOf, List.map_cons, List.map_nil, opN, List.getD_cons_zero, List.getD_cons_succ]
                obtain ⟨W0, hW0, mW0⟩ : ∃ D, y2.drew = D ∧ Mod [] y2 D := ⟨_, rfl, (Mod.refl [] y2).drew⟩
                rw [hW0]
                have HQ := Lib.hid mW0
                have cv := conv_bytes (HR3.out.kept0 mW0).bytes
                have bb := mW0.cellD b3
                clear hW0 mW0 b3
                go_wp2_with ((with_reducible refine xConvertAt rfl cv ?_ ?_ ?_); exact rfl; exact rfl)
                refine ⟨by first | trivial | rfl, ?_⟩
                obtain ⟨W1, hAl, kA, zA, mA⟩ := alloc_named2 W0 (.cells #[] 9)
                obtain ⟨gE, hgE⟩ : ∃ g, W0.heap.size = g := ⟨_, rfl⟩
                rw [hgE] at kA
                have HE := Lib.hid (show OwnR encStr 1 9 W1 y2.heap.size (.slice (some ⟨gE, 0, none⟩) 0 0) [] from own_lit kA rfl rfl encStr_len (by rw [← hgE]; exact HQ.out.size) (by simp))
                have HEB := Lib.hid kA
                have HQ := Lib.hid (HQ.out.trans mA)
                have bbn := HQ.out.cellD HB3.out
                have cvn := conv_bytes (HR3.out.kept0 HQ.out).bytes
                go_wp2_with ((with_reducible refine xConvertAt rfl cv ?_ ?_ ?_); exact rfl; exact rfl)
                try rw [hgE]
                try rw [hAl]
                clear hAl zA mA hgE kA bb cv
                have bb := bbn
                have cv := cvn
                clear bbn cvn
                refine ⟨?agL10, ?_⟩
                case agL10 =>
                  intro i hi hw
                  simp only [List.mem_cons, List.not_mem_nil, or_false] at hi
                  rcases hi with rfl | rfl | rfl
                  all_goals (simp only [opN, List.getD_cons_zero, List.getD_cons_succ, slotOf]; go_simp; try exact cv)
                obtain ⟨v1, W2, ra, ho, gr⟩ := own_append (P := Try.prog) (ty := 32) (tx := 32) elemStr encStr_len HE.out HQ.out.size ((HO1.out.kept0 HQ.out).row.src encStr_len encStr_one Try.underlying32) (by rw [List.length_map]; simp; have := HO3.out; omega) (by omega)
                have HRA := Lib.hid ra
                rw [List.nil_append] at ho
                have HQ := Lib.hid (gr.intoNil HE.out (Nat.le_refl _) HQ.out)
                have HE := Lib.hid ho
                have bbn := HQ.out.cellD HB3.out
                have cvn := conv_bytes (HR3.out.kept0 HQ.out).bytes
                clear ra ho gr
                go_wp2_with ((with_reducible refine xConvertAt rfl cv ?_ ?_ ?_); exact rfl; exact rfl)
                refine ⟨by first | trivial | rfl, ?_⟩
                go_wp2_with ((with_reducible refine xAppendAt HRA.out rfl rfl ?_ ?_ ?_ ?_); exact rfl; exact rfl; exact rfl)
                clear HRA bb cv
                have bb := bbn
                have cv := cvn
                clear bbn cvn
                refine ⟨?agL11, ?_⟩
                case agL11 =>
                  intro i hi hw
                  simp only [List.mem_cons, List.not_mem_nil, or_false] at hi
                  rcases hi with rfl | rfl | rfl
                  all_goals (simp only [opN, List.getD_cons_zero, List.getD_cons_succ, slotOf]; go_simp; try exact cv)
                go_wp2_with ((with_reducible refine xConvertAt rfl cv ?_ ?_ ?_); exact rfl; exact rfl)
                refine ⟨by first | trivial | rfl, ?_⟩
                obtain ⟨W3, hAl, kA, zA, mA⟩ := alloc_named2 W2 (.cells #[.string (strOfNums q.l)] 9)
                obtain ⟨gX, hgX⟩ : ∃ g, W2.heap.size = g := ⟨_, rfl⟩
                rw [hgX] at kA
                have HE := Lib.hid (HE.out.kept0 mA)
                have HX := Lib.hid (show RowAt encStr W3 (.slice (some ⟨gX, 0, none⟩) 1 1) [strOfNums q.l] from row_litJ kA rfl rfl)
                have HXB := Lib.hid kA
                have HQ := Lib.hid (HQ.out.trans mA)
                have bbn := HQ.out.cellD HB3.out
                have cvn := conv_bytes (HR3.out.kept0 HQ.out).bytes
                go_wp2_with ((with_reducible refine xConvertAt rfl cv ?_ ?_ ?_); exact rfl; exact rfl)
                try rw [hgX]
                try rw [hAl]
                clear hAl zA mA hgX kA bb cv
                have bb := bbn
                have cv := cvn
                clear bbn cvn
                refine ⟨again_nil, ?_⟩
                obtain ⟨v2, W4, ra, ho, gr⟩ := own_append (P := Try.prog) (ty := 32) (tx := 32) elemStr encStr_len HE.out HQ.out.size (HX.out.src encStr_len encStr_one Try.underlying32) (by rw [List.length_map]; simp; have := HO3.out; omega) (by omega)
                have HRA := Lib.hid ra
                have hq9 := gr.intoNil HE.out (Nat.le_refl _) HQ.out
                obtain ⟨a2, c2, hv2⟩ := ho.lens
                have HFIN := Lib.hid (HO4.out _ v2 hq9 (by rw [List.map_append, List.map_singleton]; exact ho.mono HO2.out))
                obtain ⟨n2, hn2⟩ : ∃ n, (List.map strOfNums M.l ++ [strOfNums q.l]).length = n := ⟨_, rfl⟩
                rw [hn2] at hv2
                subst hv2
                clear hn2 ra ho gr hq9
                go_wp2_with ((with_reducible refine xConvertAt rfl cv ?_ ?_ ?_); exact rfl; exact rfl)
                refine ⟨by first | trivial | rfl, ?_⟩
                go_wp2_with ((with_reducible refine xAppendAt HRA.out rfl rfl ?_ ?_ ?_ ?_); exact rfl; exact rfl; exact rfl)
                clear HRA bb cv
                refine ⟨again_nil, ?_⟩
                go_wp2_with ((with_reducible refine xConvertAt rfl cv ?_ ?_ ?_); exact rfl; exact rfl)
                refine ⟨by first | trivial | rfl, ?_⟩
                go_wp2_with fail
                go_meet
                case rel => exact ⟨a2, n2, c2, rfl, Lib.hid (by obtain ⟨M2, R2, D2, h2⟩ := HFIN.out; exact ⟨_, _, _, _, _, _, h2⟩)⟩
              case L2 =>
                simp only [wpSegs, opsOf, List.map_cons, List.map_nil, opN, List.getD_cons_zero, List.getD_cons_succ]
                obtain ⟨W0, hW0, mW0⟩ : ∃ D, y2.drew = D ∧ Mod [] y2 D := ⟨_, rfl, (Mod.refl [] y2).drew⟩
                rw [hW0]
                have HQ := Lib.hid mW0
                have cv := conv_bytes (HR3.out.kept0 mW0).bytes
                have bb := mW0.cellD b3
                clear hW0 mW0 b3
                go_wp2_with ((with_reducible refine xConvertAt rfl cv ?_ ?_ ?_); exact rfl; exact rfl)
                refine ⟨by first | trivial | rfl, ?_⟩
                obtain ⟨W1, hAl, kA, zA, mA⟩ := alloc_named2 W0 (.cells #[] 9)
                obtain ⟨gE, hgE⟩ : ∃ g, W0.heap.size = g := ⟨_, rfl⟩
                rw [hgE] at kA
                have HE := Lib.hid (show OwnR encStr 1 9 W1 y2.heap.size (.slice (some ⟨gE, 0, none⟩) 0 0) [] from own_lit kA rfl rfl encStr_len (by rw [← hgE]; exact HQ.out.size) (by simp))
                have HEB := Lib.hid kA
                have HQ := Lib.hid (HQ.out.trans mA)
                have bbn := HQ.out.cellD HB3.out
                have cvn := conv_bytes (HR3.out.kept0 HQ.out).bytes
                go_wp2_with ((with_reducible refine xConvertAt rfl cv ?_ ?_ ?_); exact rfl; exact rfl)
                try rw [hgE]
                try rw [hAl]
                clear hAl zA mA hgE kA bb cv
                have bb := bbn
                have cv := cvn
                clear bbn cvn
                refine ⟨?agL20, ?_⟩
                case agL20 =>
                  intro i hi hw
                  simp only [List.mem_cons, List.not_mem_nil, or_false] at hi
                  rcases hi with rfl | rfl | rfl
                  all_goals (simp only [opN, List.getD_cons_zero, List.getD_cons_succ, slotOf]; go_simp; try exact cv)
                go_wp2_with ((with_reducible refine xConvertAt rfl cv ?_ ?_ ?_); exact rfl; exact rfl)
                refine ⟨by first | trivial | rfl, ?_⟩
                obtain ⟨W2, hAl, kA, zA, mA⟩ := alloc_named2 W1 (.cells #[.string (strOfNums q.l)] 9)
                obtain ⟨gX, hgX⟩ : ∃ g, W1.heap.size = g := ⟨_, rfl⟩
                rw [hgX] at kA
                have HDN := Lib.hid (show gX ≠ gE from by have := lt_of_heap HEB.out; omega)
                have HE := Lib.hid (HE.out.kept0 mA)
                have HX := Lib.hid (show RowAt encStr W2 (.slice (some ⟨gX, 0, none⟩) 1 1) [strOfNums q.l] from row_litJ kA rfl rfl)
                have HXB := Lib.hid kA
                have HQ := Lib.hid (HQ.out.trans mA)
                have bbn := HQ.out.cellD HB3.out
                have cvn := conv_bytes (HR3.out.kept0 HQ.out).bytes
                go_wp2_with ((with_reducible refine xConvertAt rfl cv ?_ ?_ ?_); exact rfl; exact rfl)
                try rw [hgX]
                try rw [hAl]
                clear hAl zA mA hgX kA bb cv
                have bb := bbn
                have cv := cvn
                clear bbn cvn
                refine ⟨again_nil, ?_⟩
                obtain ⟨v1, W3, ra, ho, gr⟩ := own_append (P := Try.prog) (ty := 32) (tx := 32) elemStr encStr_len HE.out HQ.out.size ((HO1.out.kept0 HQ.out).row.src encStr_len encStr_one Try.underlying32) (by rw [List.length_map]; simp; have := HO3.out; omega) (by omega)
                have HRA := Lib.hid ra
                rw [List.nil_append] at ho
                have HX := Lib.hid (HX.out.kept gr.mod (fun b' hb' hn' => by simp [Value.ownBlock, blk] at hb' hn'; have := HDN.out; omega))
                have HQ := Lib.hid (gr.intoNil HE.out (Nat.le_refl _) HQ.out)
                have HE := Lib.hid ho
                have bbn := HQ.out.cellD HB3.out
                have cvn := conv_bytes (HR3.out.kept0 HQ.out).bytes
                clear ra ho gr
                go_wp2_with ((with_reducible refine xConvertAt rfl cv ?_ ?_ ?_); exact rfl; exact rfl)
                refine ⟨by first | trivial | rfl, ?_⟩
                go_wp2_with ((with_reducible refine xAppendAt HRA.out rfl rfl ?_ ?_ ?_ ?_); exact rfl; exact rfl; exact rfl)
                clear HRA bb cv
                have bb := bbn
                have cv := cvn
                clear bbn cvn
                refine ⟨?agL22, ?_⟩
                case agL22 =>
                  intro i hi hw
                  simp only [List.mem_cons, List.not_mem_nil, or_false] at hi
                  rcases hi with rfl | rfl | rfl
                  all_goals (simp only [opN, List.getD_cons_zero, List.getD_cons_succ, slotOf]; go_simp; try exact cv)
                obtain ⟨v2, W4, ra, ho, gr⟩ := own_append (P := Try.prog) (ty := 32) (tx := 32) elemStr encStr_len HE.out HQ.out.size (HX.out.src encStr_len encStr_one Try.underlying32) (by rw [List.length_map]; simp; have := HO3.out; omega) (by omega)
                have HRA := Lib.hid ra
                have hq9 := gr.intoNil HE.out (Nat.le_refl _) HQ.out
                obtain ⟨a2, c2, hv2⟩ := ho.lens
                have HFIN := Lib.hid (HO4.out _ v2 hq9 (by rw [List.map_append, List.map_singleton]; exact ho.mono HO2.out))
                obtain ⟨n2, hn2⟩ : ∃ n, (List.map strOfNums M.l ++ [strOfNums q.l]).length = n := ⟨_, rfl⟩
                rw [hn2] at hv2
                subst hv2
                clear hn2 ra ho gr hq9
                go_wp2_with ((with_reducible refine xConvertAt rfl cv ?_ ?_ ?_); exact rfl; exact rfl)
                refine ⟨by first | trivial | rfl, ?_⟩
                go_wp2_with ((with_reducible refine xAppendAt HRA.out rfl rfl ?_ ?_ ?_ ?_); exact rfl; exact rfl; exact rfl)
                clear HRA bb cv
                refine ⟨again_nil, ?_⟩
                go_wp2_with ((with_reducible refine xConvertAt rfl cv ?_ ?_ ?_); exact rfl; exact rfl)
                refine ⟨by first | trivial | rfl, ?_⟩
                go_wp2_with fail
                go_meet
                case rel => exact ⟨a2, n2, c2, rfl, Lib.hid (by obtain ⟨M2, R2, D2, h2⟩ := HFIN.out; exact ⟨_, _, _, _, _, _, h2⟩)⟩
              case L3 =>
                simp only [wpSegs, opsOf, List.map_cons, List.map_nil, opN, List.getD_cons_zero, List.getD_cons_succ]
                obtain ⟨W0, hW0, mW0⟩ : ∃ D, y2.drew = D ∧ Mod [] y2 D := ⟨_, rfl, (Mod.refl [] y2).drew⟩
                rw [hW0]
                have HQ := Lib.hid mW0
                have cv := conv_bytes (HR3.out.kept0 mW0).bytes
                have bb := mW0.cellD b3
                clear hW0 mW0 b3
                go_wp2_with ((with_reducible refine xConvertAt rfl cv ?_ ?_ ?_); exact rfl; exact rfl)
                refine ⟨by first | trivial | rfl, ?_⟩
                obtain ⟨W1, hAl, kA, zA, mA⟩ := alloc_named2 W0 (.cells #[.string (strOfNums q.l)] 9)
                obtain ⟨gX, hgX⟩ : ∃ g, W0.heap.size = g := ⟨_, rfl⟩
                rw [hgX] at kA
                have HX := Lib.hid (show RowAt encStr W1 (.slice (some ⟨gX, 0, none⟩) 1 1) [strOfNums q.l] from row_litJ kA rfl rfl)
                have HXB := Lib.hid kA
                have HQ := Lib.hid (HQ.out.trans mA)
                have bbn := HQ.out.cellD HB3.out
                have cvn := conv_bytes (HR3.out.kept0 HQ.out).bytes
                go_wp2_with ((with_reducible refine xConvertAt rfl cv ?_ ?_ ?_); exact rfl; exact rfl)
                try rw [hgX]
                try rw [hAl]
                clear hAl zA mA hgX kA bb cv
                have bb := bbn
                have cv := cvn
                clear bbn cvn
                refine ⟨again_nil, ?_⟩
                go_wp2_with ((with_reducible refine xConvertAt rfl cv ?_ ?_ ?_); exact rfl; exact rfl)
                refine ⟨by first | trivial | rfl, ?_⟩
                obtain ⟨W2, hAl, kA, zA, mA⟩ := alloc_named2 W1 (.cells #[] 9)
                obtain ⟨gE, hgE⟩ : ∃ g, W1.heap.size = g := ⟨_, rfl⟩
                rw [hgE] at kA
                have HX := Lib.hid (HX.out.kept0 mA)
                have HDN := Lib.hid (show gX ≠ gE from by have := lt_of_heap HXB.out; omega)
                have HE := Lib.hid (show OwnR encStr 1 9 W2 y2.heap.size (.slice (some ⟨gE, 0, none⟩) 0 0) [] from own_lit kA rfl rfl encStr_len (by rw [← hgE]; exact HQ.out.size) (by simp))
                have HEB := Lib.hid kA
                have HQ := Lib.hid (HQ.out.trans mA)
                have bbn := HQ.out.cellD HB3.out
                have cvn := conv_bytes (HR3.out.kept0 HQ.out).bytes
                go_wp2_with ((with_reducible refine xConvertAt rfl cv ?_ ?_ ?_); exact rfl; exact rfl)
                try rw [hgE]
                try rw [hAl]
                clear hAl zA mA hgE kA bb cv
                have bb := bbn
                have cv := cvn
                clear bbn cvn
                refine ⟨?agL31, ?_⟩
                case agL31 =>
                  intro i hi hw
                  simp only [List.mem_cons, List.not_mem_nil, or_false] at hi
                  rcases hi with rfl | rfl | rfl
                  all_goals (simp only [opN, List.getD_cons_zero, List.getD_cons_succ, slotOf]; go_simp; try exact cv)
                obtain ⟨v1, W3, ra, ho, gr⟩ := own_append (P := Try.prog) (ty := 32) (tx := 32) elemStr encStr_len HE.out HQ.out.size ((HO1.out.kept0 HQ.out).row.src encStr_len encStr_one Try.underlying32) (by rw [List.length_map]; simp; have := HO3.out; omega) (by omega)
                have HRA := Lib.hid ra
                rw [List.nil_append] at ho
                have HX := Lib.hid (HX.out.kept gr.mod (fun b' hb' hn' => by simp [Value.ownBlock, blk] at hb' hn'; have := HDN.out; omega))
                have HQ := Lib.hid (gr.intoNil HE.out (Nat.le_refl _) HQ.out)
                have HE := Lib.hid ho
                have bbn := HQ.out.cellD HB3.out
                have cvn := conv_bytes (HR3.out.kept0 HQ.out).bytes
                clear ra ho gr
                go_wp2_with ((with_reducible refine xConvertAt rfl cv ?_ ?_ ?_); exact rfl; exact rfl)
                refine ⟨by first | trivial | rfl, ?_⟩
                go_wp2_with ((with_reducible refine xAppendAt HRA.out rfl rfl ?_ ?_ ?_ ?_); exact rfl; exact rfl; exact rfl)
                clear HRA bb cv
                have bb := bbn
                have cv := cvn
                clear bbn cvn
                refine ⟨?agL32, ?_⟩
                case agL32 =>
                  intro i hi hw
                  simp only [List.mem_cons, List.not_mem_nil, or_false] at hi
                  rcases hi with rfl | rfl | rfl
                  all_goals (simp only [opN, List.getD_cons_zero, List.getD_cons_succ, slotOf]; go_simp; try exact cv)
                obtain ⟨v2, W4, ra, ho, gr⟩ := own_append (P := Try.prog) (ty := 32) (tx := 32) elemStr encStr_len HE.out HQ.out.size (HX.out.src encStr_len encStr_one Try.underlying32) (by rw [List.length_map]; simp; have := HO3.out; omega) (by omega)
                have HRA := Lib.hid ra
                have hq9 := gr.intoNil HE.out (Nat.le_refl _) HQ.out
                obtain ⟨a2, c2, hv2⟩ := ho.lens
                have HFIN := Lib.hid (HO4.out _ v2 hq9 (by rw [List.map_append, List.map_singleton]; exact ho.mono HO2.out))
                obtain ⟨n2, hn2⟩ : ∃ n, (List.map strOfNums M.l ++ [strOfNums q.l]).length = n := ⟨_, rfl⟩
                rw [hn2] at hv2
                subst hv2
                clear hn2 ra ho gr hq9
                go_wp2_with ((with_reducible refine xConvertAt rfl cv ?_ ?_ ?_); exact rfl; exact rfl)
                refine ⟨by first | trivial | rfl, ?_⟩
                go_wp2_with ((with_reducible refine xAppendAt HRA.out rfl rfl ?_ ?_ ?_ ?_); exact rfl; exact rfl; exact rfl)
                clear HRA bb cv
                refine ⟨again_nil, ?_⟩
                go_wp2_with ((with_reducible refine xConvertAt rfl cv ?_ ?_ ?_); exact rfl; exact rfl)
                refine ⟨by first | trivial | rfl, ?_⟩
                go_wp2_with fail
                go_meet
                case rel => exact ⟨a2, n2, c2, rfl, Lib.hid (by obtain ⟨M2, R2, D2, h2⟩ := HFIN.out; exact ⟨_, _, _, _, _, _, h2⟩)⟩
            case rest =>
              obtain ⟨fa, fn, fc, rfl, HOX⟩ := hcut
              have HOX := Lib.hid HOX.out
              obtain ⟨M2, R2, D2, A2, F2, fl2, hDD⟩ := HOX.out
              have CE := Lib.hid (down_any hDD.disk)
              obtain ⟨okp, hCr, _⟩ := hDD.ok
              rw [hCr.down] at CE
              have HDX := Lib.hid hDD
              clear hDD hCr
              go_wp2_with fail
              refine CE.out.mono ?_
              rintro e z9 ⟨rfl, rfl⟩
              go_wp2_with fail
              go_roundw
              case rel => exact ⟨i + 1, by omega, by go_num, fa, fn, fc, ka, kn, kc, rfl, rfl, .inr (Lib.hid ⟨_, _, _, _, _, _, HDX.out⟩)⟩
              case measure => simp [intOf]; omega
      · obtain ⟨M, R, D, A, F, fl, hDD0⟩ := hD.out
        have hDD := hDD0.kept0 HMX.out
        have CD := Lib.hid (down_any hDD.disk)
        obtain ⟨okp, hCr, _⟩ := hDD.ok
        rw [hCr.down] at CD
        have HDD := Lib.hid hDD
        clear hD hDD hDD0 hCr
        go_wp2_with fail
        rw [HAl.out, HGE.out]
        refine CD.out.mono ?_
        rintro e w9 ⟨rfl, rfl⟩
        have hDD := HDD.out
        clear HDD CD p0 p1 p2 p3 HAl HGE
        obtain ⟨B, k, x, l1, l2, l3, l4, l5, l6, l7, l8, l9⟩ := dead_look hDD
        obtain ⟨bl, hbl⟩ : ∃ bl, B.length = bl := ⟨_, rfl⟩
        have hal : M.asked.length = bl + 1 := by rw [l1, List.length_append, hbl]; rfl
        have hlast : M.asked[bl]? = some (k, strOfNums x) := by rw [l1, List.getElem?_append_right (by omega), hbl, Nat.sub_self]; rfl
        have c3 : x1.cell? ⟨b, 3, none⟩ = some (.bool true) := by
          obtain ⟨rv, rg, hR, _⟩ := hDD.mat.disk
          obtain ⟨okp, hCr, _⟩ := hDD.ok
          rw [hR.c3, ← hDD.same.down, hCr.down]
        obtain ⟨D31, hD31, mD31⟩ : ∃ D', x1.drew = D' ∧ Mod [] x1 D' := ⟨_, rfl, (Mod.refl [] x1).drew⟩
        have hD1 := hDD.kept0 mD31
        obtain ⟨⟨lv, av, e1, e2, e3⟩, hdk⟩ := hD1.mat
        obtain ⟨aa, ac, hav⟩ := e3.lens
        rw [hal] at hav
        subst hav
        have q5 : D31.cell? ⟨jm, 5, none⟩ = some (.slice aa (bl + 1) ac) := by rw [cell_blk e1]; rfl
        have hrw := e3.row
        rw [← hal] at hrw
        obtain ⟨rq, ro, heq, hrc, hrg⟩ := RowAt.get encRw_len hrw (i := bl) (by omega)
        cases heq
        have hre : M.asked[bl]'(by omega) = (k, strOfNums x) := by
          rw [List.getElem?_eq_getElem (by omega)] at hlast
          exact Option.some.inj hlast
        have p0 := hrg 0 (.int .i64 k) (by omega) (by rw [hre]; rfl)
        have p1 : D31.cell? ⟨rq, ro + bl * 2 + 1, none⟩ = some (.string (strOfNums x)) := hrg 1 (.string (strOfNums x)) (by omega) (by rw [hre]; rfl)
        simp only [Nat.add_zero] at p0
        obtain ⟨W31, hAl3, kA3, zA3, mA3⟩ := alloc_named2 D31 (.cells #[.int .i64 0, .string ⟨#[]⟩] 53)
        obtain ⟨gL, hgL⟩ : ∃ g, D31.heap.size = g := ⟨_, rfl⟩
        rw [hgL] at kA3
        have q5b := mA3.cellD q5
        have p0b := mA3.cellD p0
        have p1b : W31.cell? ⟨rq, ro + bl * 2 + 1, none⟩ = some (.string (strOfNums x)) := mA3.cellD p1
        have HDD := Lib.hid (hD1.kept0 mA3)
        have HK3 := Lib.hid kA3
        have y0 : W31.cell? ⟨gL, 0, none⟩ = some (.int .i64 0) := by rw [cell_blk kA3]; rfl
        have y1 : W31.cell? ⟨gL, 1, none⟩ = some (.string ⟨#[]⟩) := by rw [cell_blk kA3]; rfl
        have z0 := frozen_blk kA3 0
        have z1 := frozen_blk kA3 1
        have HLK := Lib.hid (show 0 ≤ k ∧ k < D.n ∧ x.length = 64 ∧ IsB x ∧ T.length = 64 ∧ epsP (heldD D k T) = epsP D ∧ openJ (heldD D k T) = openJ D from ⟨l2, l3, l4, l5, l6, l7, l8⟩)
        have HLX := Lib.hid l9
        have HWB := Lib.hid (show IntKind.i64.wrap (bl : Int) = (bl : Int) from IntWalk.i64_in _ (by have := hDD.ask; omega))
        have hblm : bl ≤ 20000 := by have := hDD.ask; omega
        have HMA3 := Lib.hid (mD31.trans mA3)
        have HDX0 := Lib.hid hDD
        have HGL := Lib.hid (show x1.heap.size ≤ gL from by rw [← hgL]; exact mD31.size)
        clear l1 l2 l3 l4 l5 l6 l7 l8 l9 hbl hal hlast hrw hrc hrg hre e1 e2 e3 hdk hD1 mD31 zA3 mA3 kA3 hDD
        go_wp2_with fail
        clear c3
        refine wp_plan [([0, 4, 1, 5, 2, 6, 3, 7, 8, 9, 10, 11], 12, [1, 5, 2, 6, 3, 7, 8, 9, 10, 11]), ([], 13, [])] [] (by kernel_rfl) (by kernel_rfl) ?_
        simp only [wpSegs, opsOf, List.map_cons, List.map_nil, opN, List.getD_cons_zero, List.getD_cons_succ]
        rw [hD31]
        go_wp2_with fail
        refine ⟨by first | trivial | rfl, ?_⟩
        go_wp2_with fail
        try rw [hgL]
        try rw [hAl3]
        clear hAl3 hgL q5 p0 p1 hD31
        refine ⟨?agL, ?_⟩
        case agL =>
          intro i hi hw
          simp only [List.mem_cons, List.not_mem_nil, or_false] at hi
          rcases hi with rfl | rfl | rfl | rfl | rfl | rfl | rfl | rfl | rfl | rfl
          all_goals (simp only [opN, List.getD_cons_zero, List.getD_cons_succ, slotOf]; go_simp; try first | exact HWB.out | (intro hh; omega))
        go_wp2_with fail
        refine ⟨by first | trivial | rfl, ?_⟩
        go_wp2_with fail
        refine ⟨again_nil, ?_⟩
        go_wp2_with fail
        refine ⟨by first | trivial | rfl, ?_⟩
        obtain ⟨W32, hW32⟩ : ∃ W, (W31.setCell ⟨gL, 0, none⟩ (.int .i64 k)).setCell ⟨gL, 1, none⟩ (.string (strOfNums x)) = W := ⟨_, rfl⟩
        rw [hW32]
        have k1 := heap_setCell_blk HK3.out 0 (.int .i64 k)
        simp at k1
        have k2 := heap_setCell_blk k1 1 (.string (strOfNums x))
        simp at k2
        rw [hW32] at k2
        have HLB := Lib.hid (show W32.heap[gL]? = some (.cells #[.int .i64 k, .string (strOfNums x)] 53 (0, 0)) from k2)
        have hm32 : Mod [] x1 W32 := by
          rw [← hW32]
          exact Mod.into' HMA3.out (((Mod.refl [gL] W31).setCell (by simp) _).setCell (by simp) _) (fun kk hkk => .inl (by simp only [List.mem_singleton] at hkk; have := HGL.out; omega))
        have hD2 := HDX0.out.kept0 hm32
        have HD := Lib.hid hD2
        have u0 : W32.cell? ⟨gL, 0, none⟩ = some (.int .i64 k) := by rw [cell_blk k2]; rfl
        have HCV := Lib.hid (conv_bytes (HT.out.kept0 hD2.mod).bytes)
        have CH := Lib.hid (dead_held hD2 h8' h300' HLK.out.1 HLK.out.2.1 HLK.out.2.2.2.2.1 HTB.out)
        clear q5b p0b p1b y0 y1 z0 z1 hW32 k1 k2 hm32 hD2 HDD HK3 HGL
        go_wp2_with ((with_reducible refine xConvertAt rfl HCV.out ?_ ?_ ?_); exact rfl; exact rfl)
        refine CH.out.mono ?_
        rintro e W33 hp1
        obtain ⟨va1, pb1, rfl, mH1, hq1⟩ := hp1.two
        have HQ1 := Lib.hid (hq1.same HLK.out.2.2.2.2.2.1 HLK.out.2.2.2.2.2.2)
        have HLB := Lib.hid (mH1.heap HLB.out (by simp))
        have HD := Lib.hid (HD.out.kept0 mH1)
        clear hp1 hq1 mH1 CH HCV u0
        obtain ⟨D33, hD33, mD33⟩ : ∃ D', W33.drew = D' ∧ Mod [] W33 D' := ⟨_, rfl, (Mod.refl [] W33).drew⟩
        have HLB := Lib.hid (mD33.heap HLB.out (by simp))
        have HD := Lib.hid (HD.out.kept0 mD33)
        have HQ1 := Lib.hid (HQ1.out.kept0 mD33)
        have u0 : D33.cell? ⟨gL, 0, none⟩ = some (.int .i64 k) := by rw [cell_blk HLB.out]; rfl
        have hmk := run_make_row' (P := Try.prog) 33 5 (.int .u8 0) 1 Try.underlying33 info5 rfl .i64 .i64 64 (by omega) (by omega) D33
        rw [made8, show ((64 : Nat) : Int) = 64 from rfl] at hmk
        obtain ⟨gM, hgM⟩ : ∃ g, D33.heap.size = g := ⟨_, rfl⟩
        have mAl : Mod [] D33 (D33.alloc (.cells (bv (List.replicate 64 0)).toArray 5)) := (Mod.refl _ _).alloc _
        have hcv0 := conv_bytes (bytes_new D33 (List.replicate 64 0) 5)
        rw [List.length_replicate] at hcv0
        obtain ⟨WM, hWM⟩ : ∃ W, D33.alloc (.cells (bv (List.replicate 64 0)).toArray 5) = W := ⟨_, rfl⟩
        rw [hWM, hgM] at hmk hcv0
        rw [hWM] at mAl
        have HMK := Lib.hid hmk
        have HCV0 := Lib.hid hcv0
        clear hWM hgM
        have u0b := mAl.cellD u0
        have CH := Lib.hid (show Calls Try.prog 22 #[.pointer (some ⟨b, 0, none⟩), .int .i64 k, .string (strOfNums (List.replicate 64 0))] _ (HeldRet _ (heldD D k zeros64)) from dead_held (HD.out.kept0 mAl) h8' h300' HLK.out.1 HLK.out.2.1 (X := zeros64) rfl (isB_zeros 64))
        have HMAL := Lib.hid mAl
        clear hmk hcv0 mD33 mAl
        go_wp2_with fail
        refine wp_plan [([0, 1, 2], 3, [1, 2]), ([4], 5, [])] [6, 7, 8, 9, 10] (by kernel_rfl) (by kernel_rfl) ?_
        simp only [wpSegs, opsOf, List.map_cons, List.map_nil, opN, List.getD_cons_zero, List.getD_cons_succ]
        rw [hD33]
        go_wp2_with fail
        refine ⟨by first | trivial | rfl, ?_⟩
        go_wp2_with (refine wpList_makeSlice rfl (t := 33) rfl rfl rfl HMK.out ?_)
        refine ⟨?agM, ?_⟩
        case agM =>
          intro i hi hw
          simp only [List.mem_cons, List.not_mem_nil, or_false] at hi
          rcases hi with rfl | rfl
          all_goals (simp only [opN, List.getD_cons_zero, List.getD_cons_succ, slotOf]; go_simp)
        go_wp2_with ((with_reducible refine xConvertAt rfl HCV0.out ?_ ?_ ?_); exact rfl; exact rfl)
        refine ⟨by first | trivial | rfl, ?_⟩
        go_wp2_with fail
        refine CH.out.mono ?_
        rintro e W34 hp2
        obtain ⟨va2, pb2, rfl, mH2, hq2⟩ := hp2.two
        have hm2 := HMAL.out.trans mH2
        have HQ2 := Lib.hid hq2
        have HLB := Lib.hid (hm2.heap HLB.out (by simp))
        have HD := Lib.hid (HD.out.kept0 hm2)
        have HQ1 := Lib.hid (HQ1.out.kept0 hm2)
        clear hp2 hq2 mH2 hm2 CH HCV0 HMK HMAL u0 u0b hD33
        have CH := Lib.hid (dead_held HD.out h8' h300' HLK.out.1 HLK.out.2.1 HLK.out.2.2.1 HLK.out.2.2.2.1)
        have u0 : W34.cell? ⟨gL, 0, none⟩ = some (.int .i64 k) := by rw [cell_blk HLB.out]; rfl
        have u1 : W34.cell? ⟨gL, 1, none⟩ = some (.string (strOfNums x)) := by rw [cell_blk HLB.out]; rfl
        go_wp2_with fail
        refine ⟨again_nil, ?_⟩
        go_wp2_with fail
        refine ⟨by first | trivial | rfl, ?_⟩
        go_wp2_with fail
        refine CH.out.mono ?_
        rintro e W35 hp3
        obtain ⟨va3, pb3, rfl, mH3, hq3'⟩ := hp3.two
        have HQ3 := Lib.hid hq3'
        have HD := Lib.hid (HD.out.kept0 mH3)
        have HQ1 := Lib.hid (HQ1.out.kept0 mH3)
        have HQ2 := Lib.hid (HQ2.out.kept0 mH3)
        clear hp3 hq3' mH3 CH u0 u1
        obtain ⟨x0, x1'⟩ := HLX.out zeros64 (.inl rfl)
        obtain ⟨w0, w1'⟩ := HLX.out x (.inr rfl)
        have hb2 := HQ2.out.yes x0
        have hb3 := HQ3.out.yes w0
        subst hb2 hb3
        have HX1 := Lib.hid x1'
        have HW1 := Lib.hid w1'
        clear x0 x1' w0 w1'
        go_upto_region 35 with fail
        go_cut [203] from 184 to 203 (fun s203 wx => ∃ gg : Bool, s203 = .bool gg ∧ Hid (Mod [] W35 wx ∧ (gg = false → 0 < epsP D ∧ ((openJ D).l.map strOfNums = A ∨ (fl = true ∧ (openJ D).l.map strOfNums = F)))))
        case first =>
          rcases HQ1.out with ⟨rfl, h1, _⟩ | ⟨rfl, h1, ho1⟩
          · clear h1
            go_wp2_with fail
            go_meet
            case rel => exact ⟨true, rfl, Lib.hid ⟨Mod.refl _ _, fun h => by cases h⟩⟩
          · rcases HQ2.out with ⟨h2, _⟩ | ⟨_, h2, ho2⟩
            · cases h2
            rcases HQ3.out with ⟨h3, _⟩ | ⟨_, h3, ho3⟩
            · cases h3
            have hlen : ((openJ D).l.map strOfNums).length ≤ 1048576 := by
              have := openJ_len HD.out h8' h300'
              rw [List.length_map]; exact this
            have CS1 := Lib.hid (mjSameT_at ho1.row ho2.row hlen)
            have CS2 := Lib.hid (fun u (m : Mod [] W35 u) => mjSameT_at (ho1.kept0 m).row (ho3.kept0 m).row hlen)
            have HP1 := Lib.hid h1
            by_cases s1 : (openJ D).l.map strOfNums = (openJ (heldD D k zeros64)).l.map strOfNums
            · rw [decide_eq_true s1] at CS1
              have HS1 := Lib.hid s1
              clear h1 h2 h3 ho1 ho2 ho3 s1 CS2 hlen
              go_wp2_with fail
              refine CS1.out.mono ?_
              rintro e u1 ⟨rfl, mu1⟩
              have HMU := Lib.hid mu1
              clear mu1
              go_wp2_with fail
              go_meet
              case rel => exact ⟨false, rfl, Lib.hid ⟨HMU.out, fun _ => ⟨HP1.out, by rw [HS1.out]; exact HX1.out⟩⟩⟩
            · rw [decide_eq_false s1] at CS1
              clear h1 h2 h3 ho1 ho2 ho3 s1 hlen
              go_wp2_with fail
              refine CS1.out.mono ?_
              rintro e u1 ⟨rfl, mu1⟩
              have HMU := Lib.hid mu1
              have CS3 := Lib.hid (CS2.out u1 mu1)
              clear mu1 CS2
              by_cases s2 : (openJ D).l.map strOfNums = (openJ (heldD D k x)).l.map strOfNums
              · rw [decide_eq_true s2] at CS3
                have HS2 := Lib.hid s2
                clear s2
                go_wp2_with fail
                refine CS3.out.mono ?_
                rintro e u2 ⟨rfl, mu2⟩
                have HMU := Lib.hid (HMU.out.trans mu2)
                clear mu2
                go_wp2_with fail
                go_meet
                case rel => exact ⟨false, rfl, Lib.hid ⟨HMU.out, fun _ => ⟨HP1.out, by rw [HS2.out]; exact HW1.out⟩⟩⟩
              · rw [decide_eq_false s2] at CS3
                clear s2
                go_wp2_with fail
                refine CS3.out.mono ?_
                rintro e u2 ⟨rfl, mu2⟩
                have HMU := Lib.hid (HMU.out.trans mu2)
                clear mu2
                go_wp2_with fail
                go_meet
                case rel => exact ⟨true, rfl, Lib.hid ⟨HMU.out, fun h => by cases h⟩⟩
        case rest =>
          obtain ⟨gg, rfl, hcc⟩ := hcut
          obtain ⟨mcc, hacc⟩ := hcc.out
          have hDc := HD.out.kept0 mcc
          by_cases hgg : gg = true
          · subst hgg
            have HMW2 := Lib.hid hDc.mod
            clear hacc hcc mcc hDc
            go_wp2_with fail
            refine (HKN.out _).mono ?_
            rintro e u9 ⟨rfl, mu⟩
            have HMF := Lib.hid (HMW2.out.trans mu)
            clear mu
            go_wp2_with fail
            go_ret
            exact ⟨rfl, HMF.out⟩
          · obtain rfl : gg = false := by simpa using hgg
            obtain ⟨ac1, ac2⟩ := hacc rfl
            have CU := Lib.hid (up_any hDc.disk)
            have HDC := Lib.hid hDc
            have HAC := Lib.hid (⟨ac1, ac2⟩ : _ ∧ _)
            clear hgg hacc hcc mcc hDc ac1 ac2
            go_wp2_with fail
            refine CU.out.mono ?_
            rintro e v0 ⟨rfl, mu, hdu⟩
            have HTA := Lib.hid (HDC.out.tail HGB.out.1 HAC.out.1 HAC.out.2 hdu mu)
            clear mu hdu CU
            obtain ⟨DU, hDU⟩ : ∃ E : Dk, ({ D with down := false } : Dk) = E := ⟨_, rfl⟩
            have HDN := Lib.hid (show DU.down = false from by rw [← hDU])
            rw [hDU] at HTA
            have CW := Lib.hid (written_any HTA.out.disk)
            clear hDU
            go_wp2_with fail
            refine CW.out.mono ?_
            rintro e v1 ⟨rfl, rfl⟩
            obtain ⟨wrt, hwrt⟩ : ∃ x, DU.written = x := ⟨_, rfl⟩
            have HWT := Lib.hid hwrt
            rw [hwrt]
            clear CW hwrt
            go_wp2_with fail
            go_loopw [29, 30, 31, 209] (fun s29 s30 s31 s209 W => ∃ i : Nat, i ≤ 2 ∧ s209 = .int .i64 i ∧ Hid (∃ av fv F, av = Value.slice ka kn kc ∧ fv = Value.slice fa fn fc ∧ TailAt w W base n DU av fv A F fl)) (fun _ _ _ s209 _ => 2 - (intOf s209).toNat)
            case atStart => exact ⟨0, by omega, rfl, Lib.hid ⟨_, _, _, rfl, rfl, HTA.out⟩⟩
            case round =>
              clear HTA
              rename World => wt
              obtain ⟨i2, hi2, rfl, hS⟩ := hrel
              obtain ⟨av, fv, FF, rfl, rfl, hTA⟩ := hS.out
              have HTA := Lib.hid hTA
              clear hS hTA
              by_cases hlt2 : i2 < 2
              · have e1 : decide ((i2 : Int) < 2) = true := decide_eq_true (by omega)
                have CO := Lib.hid (jOpen_at HTA.out.disk (by have := HTA.out.num; omega) HDN.out HTA.out.secs (by have := HTA.out.wr; omega))
                go_wp2_with fail
                refine CO.out.mono ?_
                rintro e v2 ⟨mo, ho⟩
                rcases ho with ⟨hz, _⟩ | ⟨_, j2, rfl, hj2, hjat⟩
                · exact absurd hz (by have := HTA.out.pos; omega)
                have HTA := Lib.hid (HTA.out.kept0 mo)
                have hln := HTA.out.lens
                have CR2 := Lib.hid (jRecords_at hjat (by omega) (fun b hb => by have := hln.2 b hb; omega))
                clear mo hj2 hjat CO
                go_wp2_with fail
                refine CR2.out.mono ?_
                rintro e v3 ⟨vv, hs, rfl, hob, mr⟩
                have HTA := Lib.hid (HTA.out.kept0 mr)
                have CS := Lib.hid (mjSame_at hob HTA.out.own.row (by omega))
                have HOB := Lib.hid hob
                clear mr CR2 hob hln
                by_cases g1 : (openJ DU).l.map strOfNums = A
                · rw [decide_eq_true g1] at CS
                  clear g1
                  go_wp2_with fail
                  refine CS.out.mono ?_
                  rintro e v4 ⟨rfl, ms⟩
                  have HTA := Lib.hid (HTA.out.kept0 ms)
                  clear ms CS
                  go_wp2_with fail
                  go_roundw
                  case rel => exact ⟨i2 + 1, by omega, by go_num, Lib.hid ⟨_, _, _, rfl, rfl, HTA.out⟩⟩
                  case measure => simp [intOf]; omega
                · rw [decide_eq_false g1] at CS
                  obtain ⟨hfl, hgF⟩ : fl = true ∧ (openJ DU).l.map strOfNums = FF := by rcases HTA.out.got with h | h; exact absurd h g1; exact h
                  obtain ⟨_, hof, hne⟩ : fl = true ∧ OwnR encStr 1 9 v3 base (.slice fa fn fc) FF ∧ FF ≠ [] := by rcases HTA.out.flt with ⟨h, _⟩ | h; rw [h] at hfl; cases hfl; exact h
                  obtain ⟨g5, c5, hfe, _⟩ := hof.at_ (p := 0) (x := FF[0]'(List.length_pos_iff.2 hne)) (List.getElem?_eq_getElem _)
                  simp only [Value.slice.injEq] at hfe
                  obtain ⟨hfa, hfb, hfc⟩ := hfe
                  clear hfb hfc
                  have CS2 := Lib.hid (fun u (m : Mod [] v3 u) => mjSame_at (HOB.out.kept0 m) (hof.kept0 m).row (by have := HTA.out.lens.1; omega))
                  have hnil := fun (u : World) => Lib.run_eql_slice_nil (P := Try.prog) u 32 9 fa fn fc 0 0 Try.underlying32
                  rw [hfa] at hnil
                  have HGF := Lib.hid hgF
                  clear g1 hfl hgF hof hne
                  subst hfa
                  go_wp2_with fail
                  refine CS.out.mono ?_
                  rintro e v4 ⟨rfl, ms⟩
                  have HTA := Lib.hid (HTA.out.kept0 ms)
                  have CS3 := Lib.hid (CS2.out v4 ms)
                  rw [decide_eq_true HGF.out] at CS3
                  clear ms CS CS2
                  go_wp2_with fail
                  refine CS3.out.mono ?_
                  rintro e v5 ⟨rfl, ms⟩
                  have HTA := Lib.hid (HTA.out.kept0 ms)
                  clear ms CS3
                  go_wp2_with fail
                  go_roundw
                  case rel => exact ⟨i2 + 1, by omega, by go_num, Lib.hid ⟨_, _, _, rfl, rfl, HTA.out⟩⟩
                  case measure => simp [intOf]; omega
              · obtain rfl : i2 = 2 := by omega
                have e1 : decide (((2 : Nat) : Int) < 2) = false := by decide
                have CW := Lib.hid (written_any HTA.out.disk)
                rw [HWT.out] at CW
                have e2 : (wrt == wrt) = true := by simp
                go_wp2_with fail
                refine CW.out.mono ?_
                rintro e v5 ⟨rfl, rfl⟩
                go_wp2_with fail
                refine (HKN.out _).mono ?_
                rintro e v6 ⟨rfl, mk⟩
                have HMF := Lib.hid (HTA.out.mod.trans mk)
                clear mk
                go_wp2_with fail
                go_ret
                exact ⟨rfl, HMF.out⟩
    · obtain rfl : i = L.length := by omega
      have d5 : decide ((L.length : Int) < (L.length : Int)) = false := decide_eq_false (by omega)
      rcases hst with ⟨hL, rfl, rfl, rfl⟩ | hD
      · obtain ⟨M, R, D, hLV⟩ := hL.out
        have c3 : wr.cell? ⟨b, 3, none⟩ = some (.bool false) := by
          obtain ⟨rv, rg, hR, _⟩ := hLV.mat.disk
          rw [hR.c3, ← hLV.same.down, hLV.live.down]
        have CU := Lib.hid (up_any hLV.jat.disk)
        have HLV := Lib.hid hLV
        clear hL hLV
        go_wp2_with fail
        refine CU.out.mono ?_
        rintro e v0 ⟨rfl, mu, hdu⟩
        have HTA := Lib.hid (HLV.out.tail (by omega) HGB.out.1 hdu mu)
        clear mu hdu CU c3
        obtain ⟨DU, hDU⟩ : ∃ E : Dk, ({ D with down := false } : Dk) = E := ⟨_, rfl⟩
        have HDN := Lib.hid (show DU.down = false from by rw [← hDU])
        rw [hDU] at HTA
        have CW := Lib.hid (written_any HTA.out.disk)
        clear hDU
        go_wp2_with fail
        refine CW.out.mono ?_
        rintro e v1 ⟨rfl, rfl⟩
        obtain ⟨wrt, hwrt⟩ : ∃ x, DU.written = x := ⟨_, rfl⟩
        have HWT := Lib.hid hwrt
        rw [hwrt]
        clear CW hwrt
        go_wp2_with fail
        go_loopw [29, 30, 31, 209] (fun s29 s30 s31 s209 W => ∃ i : Nat, i ≤ 2 ∧ s209 = .int .i64 i ∧ Hid (∃ av fv F, av = Value.slice ka kn kc ∧ fv = Value.slice none 0 0 ∧ TailAt w W base n DU av fv (M.l.map strOfNums) F false)) (fun _ _ _ s209 _ => 2 - (intOf s209).toNat)
        case atStart => exact ⟨0, by omega, rfl, Lib.hid ⟨_, _, _, rfl, rfl, HTA.out⟩⟩
        case round =>
          clear HTA
          rename World => wt
          obtain ⟨i2, hi2, rfl, hS⟩ := hrel
          obtain ⟨av, fv, FF, rfl, rfl, hTA⟩ := hS.out
          have HTA := Lib.hid hTA
          clear hS hTA
          by_cases hlt2 : i2 < 2
          · have e1 : decide ((i2 : Int) < 2) = true := decide_eq_true (by omega)
            have CO := Lib.hid (jOpen_at HTA.out.disk (by have := HTA.out.num; omega) HDN.out HTA.out.secs (by have := HTA.out.wr; omega))
            go_wp2_with fail
            refine CO.out.mono ?_
            rintro e v2 ⟨mo, ho⟩
            rcases ho with ⟨hz, _⟩ | ⟨_, j2, rfl, hj2, hjat⟩
            · exact absurd hz (by have := HTA.out.pos; omega)
            have HTA := Lib.hid (HTA.out.kept0 mo)
            have hln := HTA.out.lens
            have CR2 := Lib.hid (jRecords_at hjat (by omega) (fun b hb => by have := hln.2 b hb; omega))
            clear mo hj2 hjat CO
            go_wp2_with fail
            refine CR2.out.mono ?_
            rintro e v3 ⟨vv, hs, rfl, hob, mr⟩
            have HTA := Lib.hid (HTA.out.kept0 mr)
            have CS := Lib.hid (mjSame_at hob HTA.out.own.row (by omega))
            have HOB := Lib.hid hob
            clear mr CR2 hob hln
            by_cases g1 : (openJ DU).l.map strOfNums = (M.l.map strOfNums)
            · rw [decide_eq_true g1] at CS
              clear g1
              go_wp2_with fail
              refine CS.out.mono ?_
              rintro e v4 ⟨rfl, ms⟩
              have HTA := Lib.hid (HTA.out.kept0 ms)
              clear ms CS
              go_wp2_with fail
              go_roundw
              case rel => exact ⟨i2 + 1, by omega, by go_num, Lib.hid ⟨_, _, _, rfl, rfl, HTA.out⟩⟩
              case measure => simp [intOf]; omega
            · exact absurd ((HTA.out.got).resolve_right (fun h => by cases h.1)) g1
          · obtain rfl : i2 = 2 := by omega
            have e1 : decide (((2 : Nat) : Int) < 2) = false := by decide
            have CW := Lib.hid (written_any HTA.out.disk)
            rw [HWT.out] at CW
            have e2 : (wrt == wrt) = true := by simp
            go_wp2_with fail
            refine CW.out.mono ?_
            rintro e v5 ⟨rfl, rfl⟩
            go_wp2_with fail
            refine (HKN.out _).mono ?_
            rintro e v6 ⟨rfl, mk⟩
            have HMF := Lib.hid (HTA.out.mod.trans mk)
            clear mk
            go_wp2_with fail
            go_ret
            exact ⟨rfl, HMF.out⟩
      · obtain ⟨M, R, D, A, F, fl, hDD0⟩ := hD.out
        have hDD := hDD0
        clear hD hDD0
        obtain ⟨B, k, x, l1, l2, l3, l4, l5, l6, l7, l8, l9⟩ := dead_look hDD
        obtain ⟨bl, hbl⟩ : ∃ bl, B.length = bl := ⟨_, rfl⟩
        have hal : M.asked.length = bl + 1 := by rw [l1, List.length_append, hbl]; rfl
        have hlast : M.asked[bl]? = some (k, strOfNums x) := by rw [l1, List.getElem?_append_right (by omega), hbl, Nat.sub_self]; rfl
        have c3 : wr.cell? ⟨b, 3, none⟩ = some (.bool true) := by
          obtain ⟨rv, rg, hR, _⟩ := hDD.mat.disk
          obtain ⟨okp, hCr, _⟩ := hDD.ok
          rw [hR.c3, ← hDD.same.down, hCr.down]
        obtain ⟨D31, hD31, mD31⟩ : ∃ D', wr.drew = D' ∧ Mod [] wr D' := ⟨_, rfl, (Mod.refl [] wr).drew⟩
        have hD1 := hDD.kept0 mD31
        obtain ⟨⟨lv, av, e1, e2, e3⟩, hdk⟩ := hD1.mat
        obtain ⟨aa, ac, hav⟩ := e3.lens
        rw [hal] at hav
        subst hav
        have q5 : D31.cell? ⟨jm, 5, none⟩ = some (.slice aa (bl + 1) ac) := by rw [cell_blk e1]; rfl
        have hrw := e3.row
        rw [← hal] at hrw
        obtain ⟨rq, ro, heq, hrc, hrg⟩ := RowAt.get encRw_len hrw (i := bl) (by omega)
        cases heq
        have hre : M.asked[bl]'(by omega) = (k, strOfNums x) := by
          rw [List.getElem?_eq_getElem (by omega)] at hlast
          exact Option.some.inj hlast
        have p0 := hrg 0 (.int .i64 k) (by omega) (by rw [hre]; rfl)
        have p1 : D31.cell? ⟨rq, ro + bl * 2 + 1, none⟩ = some (.string (strOfNums x)) := hrg 1 (.string (strOfNums x)) (by omega) (by rw [hre]; rfl)
        simp only [Nat.add_zero] at p0
        obtain ⟨W31, hAl3, kA3, zA3, mA3⟩ := alloc_named2 D31 (.cells #[.int .i64 0, .string ⟨#[]⟩] 53)
        obtain ⟨gL, hgL⟩ : ∃ g, D31.heap.size = g := ⟨_, rfl⟩
        rw [hgL] at kA3
        have q5b := mA3.cellD q5
        have p0b := mA3.cellD p0
        have p1b : W31.cell? ⟨rq, ro + bl * 2 + 1, none⟩ = some (.string (strOfNums x)) := mA3.cellD p1
        have HDD := Lib.hid (hD1.kept0 mA3)
        have HK3 := Lib.hid kA3
        have y0 : W31.cell? ⟨gL, 0, none⟩ = some (.int .i64 0) := by rw [cell_blk kA3]; rfl
        have y1 : W31.cell? ⟨gL, 1, none⟩ = some (.string ⟨#[]⟩) := by rw [cell_blk kA3]; rfl
        have z0 := frozen_blk kA3 0
        have z1 := frozen_blk kA3 1
        have HLK := Lib.hid (show 0 ≤ k ∧ k < D.n ∧ x.length = 64 ∧ IsB x ∧ T.length = 64 ∧ epsP (heldD D k T) = epsP D ∧ openJ (heldD D k T) = openJ D from ⟨l2, l3, l4, l5, l6, l7, l8⟩)
        have HLX := Lib.hid l9
        have HWB := Lib.hid (show IntKind.i64.wrap (bl : Int) = (bl : Int) from IntWalk.i64_in _ (by have := hDD.ask; omega))
        have hblm : bl ≤ 20000 := by have := hDD.ask; omega
        have HMA3 := Lib.hid (mD31.trans mA3)
        have HDX0 := Lib.hid hDD
        have HGL := Lib.hid (show wr.heap.size ≤ gL from by rw [← hgL]; exact mD31.size)
        clear l1 l2 l3 l4 l5 l6 l7 l8 l9 hbl hal hlast hrw hrc hrg hre e1 e2 e3 hdk hD1 mD31 zA3 mA3 kA3 hDD
        go_wp2_with fail
        clear c3
        refine wp_plan [([0, 4, 1, 5, 2, 6, 3, 7, 8, 9, 10, 11], 12, [1, 5, 2, 6, 3, 7, 8, 9, 10, 11]), ([], 13, [])] [] (by kernel_rfl) (by kernel_rfl) ?_
        simp only [wpSegs, opsOf, List.map_cons, List.map_nil, opN, List.getD_cons_zero, List.getD_cons_succ]
        rw [hD31]
        go_wp2_with fail
        refine ⟨by first | trivial | rfl, ?_⟩
        go_wp2_with fail
        try rw [hgL]
        try rw [hAl3]
        clear hAl3 hgL q5 p0 p1 hD31
        refine ⟨?agL, ?_⟩
        case agL =>
          intro i hi hw
          simp only [List.mem_cons, List.not_mem_nil, or_false] at hi
          rcases hi with rfl | rfl | rfl | rfl | rfl | rfl | rfl | rfl | rfl | rfl
          all_goals (simp only [opN, List.getD_cons_zero, List.getD_cons_succ, slotOf]; go_simp; try first | exact HWB.out | (intro hh; omega))
        go_wp2_with fail
        refine ⟨by first | trivial | rfl, ?_⟩
        go_wp2_with fail
        refine ⟨again_nil, ?_⟩
        go_wp2_with fail
        refine ⟨by first | trivial | rfl, ?_⟩
        obtain ⟨W32, hW32⟩ : ∃ W, (W31.setCell ⟨gL, 0, none⟩ (.int .i64 k)).setCell ⟨gL, 1, none⟩ (.string (strOfNums x)) = W := ⟨_, rfl⟩
        rw [hW32]
        have k1 := heap_setCell_blk HK3.out 0 (.int .i64 k)
        simp at k1
        have k2 := heap_setCell_blk k1 1 (.string (strOfNums x))
        simp at k2
        rw [hW32] at k2
        have HLB := Lib.hid (show W32.heap[gL]? = some (.cells #[.int .i64 k, .string (strOfNums x)] 53 (0, 0)) from k2)
        have hm32 : Mod [] wr W32 := by
          rw [← hW32]
          exact Mod.into' HMA3.out (((Mod.refl [gL] W31).setCell (by simp) _).setCell (by simp) _) (fun kk hkk => .inl (by simp only [List.mem_singleton] at hkk; have := HGL.out; omega))
        have hD2 := HDX0.out.kept0 hm32
        have HD := Lib.hid hD2
        have u0 : W32.cell? ⟨gL, 0, none⟩ = some (.int .i64 k) := by rw [cell_blk k2]; rfl
        have HCV := Lib.hid (conv_bytes (HT.out.kept0 hD2.mod).bytes)
        have CH := Lib.hid (dead_held hD2 h8' h300' HLK.out.1 HLK.out.2.1 HLK.out.2.2.2.2.1 HTB.out)
        clear q5b p0b p1b y0 y1 z0 z1 hW32 k1 k2 hm32 hD2 HDD HK3 HGL
        go_wp2_with ((with_reducible refine xConvertAt rfl HCV.out ?_ ?_ ?_); exact rfl; exact rfl)
        refine CH.out.mono ?_
        rintro e W33 hp1
        obtain ⟨va1, pb1, rfl, mH1, hq1⟩ := hp1.two
        have HQ1 := Lib.hid (hq1.same HLK.out.2.2.2.2.2.1 HLK.out.2.2.2.2.2.2)
        have HLB := Lib.hid (mH1.heap HLB.out (by simp))
        have HD := Lib.hid (HD.out.kept0 mH1)
        clear hp1 hq1 mH1 CH HCV u0
        obtain ⟨D33, hD33, mD33⟩ : ∃ D', W33.drew = D' ∧ Mod [] W33 D' := ⟨_, rfl, (Mod.refl [] W33).drew⟩
        have HLB := Lib.hid (mD33.heap HLB.out (by simp))
        have HD := Lib.hid (HD.out.kept0 mD33)
        have HQ1 := Lib.hid (HQ1.out.kept0 mD33)
        have u0 : D33.cell? ⟨gL, 0, none⟩ = some (.int .i64 k) := by rw [cell_blk HLB.out]; rfl
        have hmk := run_make_row' (P := Try.prog) 33 5 (.int .u8 0) 1 Try.underlying33 info5 rfl .i64 .i64 64 (by omega) (by omega) D33
        rw [made8, show ((64 : Nat) : Int) = 64 from rfl] at hmk
        obtain ⟨gM, hgM⟩ : ∃ g, D33.heap.size = g := ⟨_, rfl⟩
        have mAl : Mod [] D33 (D33.alloc (.cells (bv (List.replicate 64 0)).toArray 5)) := (Mod.refl _ _).alloc _
        have hcv0 := conv_bytes (bytes_new D33 (List.replicate 64 0) 5)
        rw [List.length_replicate] at hcv0
        obtain ⟨WM, hWM⟩ : ∃ W, D33.alloc (.cells (bv (List.replicate 64 0)).toArray 5) = W := ⟨_, rfl⟩
        rw [hWM, hgM] at hmk hcv0
        rw [hWM] at mAl
        have HMK := Lib.hid hmk
        have HCV0 := Lib.hid hcv0
        clear hWM hgM
        have u0b := mAl.cellD u0
        have CH := Lib.hid (show Calls Try.prog 22 #[.pointer (some ⟨b, 0, none⟩), .int .i64 k, .string (strOfNums (List.replicate 64 0))] _ (HeldRet _ (heldD D k zeros64)) from dead_held (HD.out.kept0 mAl) h8' h300' HLK.out.1 HLK.out.2.1 (X := zeros64) rfl (isB_zeros 64))
        have HMAL := Lib.hid mAl
        clear hmk hcv0 mD33 mAl
        go_wp2_with fail
        refine wp_plan [([0, 1, 2], 3, [1, 2]), ([4], 5, [])] [6, 7, 8, 9, 10] (by kernel_rfl) (by kernel_rfl) ?_
        simp only [wpSegs, opsOf, List.map_cons, List.map_nil, opN, List.getD_cons_zero, List.getD_cons_succ]
        rw [hD33]
        go_wp2_with fail
        refine ⟨by first | trivial | rfl, ?_⟩
        go_wp2_with (refine wpList_makeSlice rfl (t := 33) rfl rfl rfl HMK.out ?_)
        refine ⟨?agM, ?_⟩
        case agM =>
          intro i hi hw
          simp only [List.mem_cons, List.not_mem_nil, or_false] at hi
          rcases hi with rfl | rfl
          all_goals (simp only [opN, List.getD_cons_zero, List.getD_cons_succ, slotOf]; go_simp)
        go_wp2_with ((with_reducible refine xConvertAt rfl HCV0.out ?_ ?_ ?_); exact rfl; exact rfl)
        refine ⟨by first | trivial | rfl, ?_⟩
        go_wp2_with fail
        refine CH.out.mono ?_
        rintro e W34 hp2
        obtain ⟨va2, pb2, rfl, mH2, hq2⟩ := hp2.two
        have hm2 := HMAL.out.trans mH2
        have HQ2 := Lib.hid hq2
        have HLB := Lib.hid (hm2.heap HLB.out (by simp))
        have HD := Lib.hid (HD.out.kept0 hm2)
        have HQ1 := Lib.hid (HQ1.out.kept0 hm2)
        clear hp2 hq2 mH2 hm2 CH HCV0 HMK HMAL u0 u0b hD33
        have CH := Lib.hid (dead_held HD.out h8' h300' HLK.out.1 HLK.out.2.1 HLK.out.2.2.1 HLK.out.2.2.2.1)
        have u0 : W34.cell? ⟨gL, 0, none⟩ = some (.int .i64 k) := by rw [cell_blk HLB.out]; rfl
        have u1 : W34.cell? ⟨gL, 1, none⟩ = some (.string (strOfNums x)) := by rw [cell_blk HLB.out]; rfl
        go_wp2_with fail
        refine ⟨again_nil, ?_⟩
        go_wp2_with fail
        refine ⟨by first | trivial | rfl, ?_⟩
        go_wp2_with fail
        refine CH.out.mono ?_
        rintro e W35 hp3
        obtain ⟨va3, pb3, rfl, mH3, hq3'⟩ := hp3.two
        have HQ3 := Lib.hid hq3'
        have HD := Lib.hid (HD.out.kept0 mH3)
        have HQ1 := Lib.hid (HQ1.out.kept0 mH3)
        have HQ2 := Lib.hid (HQ2.out.kept0 mH3)
        clear hp3 hq3' mH3 CH u0 u1
        obtain ⟨x0, x1'⟩ := HLX.out zeros64 (.inl rfl)
        obtain ⟨w0, w1'⟩ := HLX.out x (.inr rfl)
        have hb2 := HQ2.out.yes x0
        have hb3 := HQ3.out.yes w0
        subst hb2 hb3
        have HX1 := Lib.hid x1'
        have HW1 := Lib.hid w1'
        clear x0 x1' w0 w1'
        go_upto_region 35 with fail
        go_cut [203] from 184 to 203 (fun s203 wx => ∃ gg : Bool, s203 = .bool gg ∧ Hid (Mod [] W35 wx ∧ (gg = false → 0 < epsP D ∧ ((openJ D).l.map strOfNums = A ∨ (fl = true ∧ (openJ D).l.map strOfNums = F)))))
        case first =>
          rcases HQ1.out with ⟨rfl, h1, _⟩ | ⟨rfl, h1, ho1⟩
          · clear h1
            go_wp2_with fail
            go_meet
            case rel => exact ⟨true, rfl, Lib.hid ⟨Mod.refl _ _, fun h => by cases h⟩⟩
          · rcases HQ2.out with ⟨h2, _⟩ | ⟨_, h2, ho2⟩
            · cases h2
            rcases HQ3.out with ⟨h3, _⟩ | ⟨_, h3, ho3⟩
            · cases h3
            have hlen : ((openJ D).l.map strOfNums).length ≤ 1048576 := by
              have := openJ_len HD.out h8' h300'
              rw [List.length_map]; exact this
            have CS1 := Lib.hid (mjSameT_at ho1.row ho2.row hlen)
            have CS2 := Lib.hid (fun u (m : Mod [] W35 u) => mjSameT_at (ho1.kept0 m).row (ho3.kept0 m).row hlen)
            have HP1 := Lib.hid h1
            by_cases s1 : (openJ D).l.map strOfNums = (openJ (heldD D k zeros64)).l.map strOfNums
            · rw [decide_eq_true s1] at CS1
              have HS1 := Lib.hid s1
              clear h1 h2 h3 ho1 ho2 ho3 s1 CS2 hlen
              go_wp2_with fail
              refine CS1.out.mono ?_
              rintro e u1 ⟨rfl, mu1⟩
              have HMU := Lib.hid mu1
              clear mu1
              go_wp2_with fail
              go_meet
              case rel => exact ⟨false, rfl, Lib.hid ⟨HMU.out, fun _ => ⟨HP1.out, by rw [HS1.out]; exact HX1.out⟩⟩⟩
            · rw [decide_eq_false s1] at CS1
              clear h1 h2 h3 ho1 ho2 ho3 s1 hlen
              go_wp2_with fail
              refine CS1.out.mono ?_
              rintro e u1 ⟨rfl, mu1⟩
              have HMU := Lib.hid mu1
              have CS3 := Lib.hid (CS2.out u1 mu1)
              clear mu1 CS2
              by_cases s2 : (openJ D).l.map strOfNums = (openJ (heldD D k x)).l.map strOfNums
              · rw [decide_eq_true s2] at CS3
                have HS2 := Lib.hid s2
                clear s2
                go_wp2_with fail
                refine CS3.out.mono ?_
                rintro e u2 ⟨rfl, mu2⟩
                have HMU := Lib.hid (HMU.out.trans mu2)
                clear mu2
                go_wp2_with fail
                go_meet
                case rel => exact ⟨false, rfl, Lib.hid ⟨HMU.out, fun _ => ⟨HP1.out, by rw [HS2.out]; exact HW1.out⟩⟩⟩
              · rw [decide_eq_false s2] at CS3
                clear s2
                go_wp2_with fail
                refine CS3.out.mono ?_
                rintro e u2 ⟨rfl, mu2⟩
                have HMU := Lib.hid (HMU.out.trans mu2)
                clear mu2
                go_wp2_with fail
                go_meet
                case rel => exact ⟨true, rfl, Lib.hid ⟨HMU.out, fun h => by cases h⟩⟩
        case rest =>
          obtain ⟨gg, rfl, hcc⟩ := hcut
          obtain ⟨mcc, hacc⟩ := hcc.out
          have hDc := HD.out.kept0 mcc
          by_cases hgg : gg = true
          · subst hgg
            have HMW2 := Lib.hid hDc.mod
            clear hacc hcc mcc hDc
            go_wp2_with fail
            refine (HKN.out _).mono ?_
            rintro e u9 ⟨rfl, mu⟩
            have HMF := Lib.hid (HMW2.out.trans mu)
            clear mu
            go_wp2_with fail
            go_ret
            exact ⟨rfl, HMF.out⟩
          · obtain rfl : gg = false := by simpa using hgg
            obtain ⟨ac1, ac2⟩ := hacc rfl
            have CU := Lib.hid (up_any hDc.disk)
            have HDC := Lib.hid hDc
            have HAC := Lib.hid (⟨ac1, ac2⟩ : _ ∧ _)
            clear hgg hacc hcc mcc hDc ac1 ac2
            go_wp2_with fail
            refine CU.out.mono ?_
            rintro e v0 ⟨rfl, mu, hdu⟩
            have HTA := Lib.hid (HDC.out.tail HGB.out.1 HAC.out.1 HAC.out.2 hdu mu)
            clear mu hdu CU
            obtain ⟨DU, hDU⟩ : ∃ E : Dk, ({ D with down := false } : Dk) = E := ⟨_, rfl⟩
            have HDN := Lib.hid (show DU.down = false from by rw [← hDU])
            rw [hDU] at HTA
            have CW := Lib.hid (written_any HTA.out.disk)
            clear hDU
            go_wp2_with fail
            refine CW.out.mono ?_
            rintro e v1 ⟨rfl, rfl⟩
            obtain ⟨wrt, hwrt⟩ : ∃ x, DU.written = x := ⟨_, rfl⟩
            have HWT := Lib.hid hwrt
            rw [hwrt]
            clear CW hwrt
            go_wp2_with fail
            go_loopw [29, 30, 31, 209] (fun s29 s30 s31 s209 W => ∃ i : Nat, i ≤ 2 ∧ s209 = .int .i64 i ∧ Hid (∃ av fv F, av = Value.slice ka kn kc ∧ fv = Value.slice fa fn fc ∧ TailAt w W base n DU av fv A F fl)) (fun _ _ _ s209 _ => 2 - (intOf s209).toNat)
            case atStart => exact ⟨0, by omega, rfl, Lib.hid ⟨_, _, _, rfl, rfl, HTA.out⟩⟩
            case round =>
              clear HTA
              rename World => wt
              obtain ⟨i2, hi2, rfl, hS⟩ := hrel
              obtain ⟨av, fv, FF, rfl, rfl, hTA⟩ := hS.out
              have HTA := Lib.hid hTA
              clear hS hTA
              by_cases hlt2 : i2 < 2
              · have e1 : decide ((i2 : Int) < 2) = true := decide_eq_true (by omega)
                have CO := Lib.hid (jOpen_at HTA.out.disk (by have := HTA.out.num; omega) HDN.out HTA.out.secs (by have := HTA.out.wr; omega))
                go_wp2_with fail
                refine CO.out.mono ?_
                rintro e v2 ⟨mo, ho⟩
                rcases ho with ⟨hz, _⟩ | ⟨_, j2, rfl, hj2, hjat⟩
                · exact absurd hz (by have := HTA.out.pos; omega)
                have HTA := Lib.hid (HTA.out.kept0 mo)
                have hln := HTA.out.lens
                have CR2 := Lib.hid (jRecords_at hjat (by omega) (fun b hb => by have := hln.2 b hb; omega))
                clear mo hj2 hjat CO
                go_wp2_with fail
                refine CR2.out.mono ?_
                rintro e v3 ⟨vv, hs, rfl, hob, mr⟩
                have HTA := Lib.hid (HTA.out.kept0 mr)
                have CS := Lib.hid (mjSame_at hob HTA.out.own.row (by omega))
                have HOB := Lib.hid hob
                clear mr CR2 hob hln
                by_cases g1 : (openJ DU).l.map strOfNums = A
                · rw [decide_eq_true g1] at CS
                  clear g1
                  go_wp2_with fail
                  refine CS.out.mono ?_
                  rintro e v4 ⟨rfl, ms⟩
                  have HTA := Lib.hid (HTA.out.kept0 ms)
                  clear ms CS
                  go_wp2_with fail
                  go_roundw
                  case rel => exact ⟨i2 + 1, by omega, by go_num, Lib.hid ⟨_, _, _, rfl, rfl, HTA.out⟩⟩
                  case measure => simp [intOf]; omega
                · rw [decide_eq_false g1] at CS
                  obtain ⟨hfl, hgF⟩ : fl = true ∧ (openJ DU).l.map strOfNums = FF := by rcases HTA.out.got with h | h; exact absurd h g1; exact h
                  obtain ⟨_, hof, hne⟩ : fl = true ∧ OwnR encStr 1 9 v3 base (.slice fa fn fc) FF ∧ FF ≠ [] := by rcases HTA.out.flt with ⟨h, _⟩ | h; rw [h] at hfl; cases hfl; exact h
                  obtain ⟨g5, c5, hfe, _⟩ := hof.at_ (p := 0) (x := FF[0]'(List.length_pos_iff.2 hne)) (List.getElem?_eq_getElem _)
                  simp only [Value.slice.injEq] at hfe
                  obtain ⟨hfa, hfb, hfc⟩ := hfe
                  clear hfb hfc
                  have CS2 := Lib.hid (fun u (m : Mod [] v3 u) => mjSame_at (HOB.out.kept0 m) (hof.kept0 m).row (by have := HTA.out.lens.1; omega))
                  have hnil := fun (u : World) => Lib.run_eql_slice_nil (P := Try.prog) u 32 9 fa fn fc 0 0 Try.underlying32
                  rw [hfa] at hnil
                  have HGF := Lib.hid hgF
                  clear g1 hfl hgF hof hne
                  subst hfa
                  go_wp2_with fail
                  refine CS.out.mono ?_
                  rintro e v4 ⟨rfl, ms⟩
                  have HTA := Lib.hid (HTA.out.kept0 ms)
                  have CS3 := Lib.hid (CS2.out v4 ms)
                  rw [decide_eq_true HGF.out] at CS3
                  clear ms CS CS2
                  go_wp2_with fail
                  refine CS3.out.mono ?_
                  rintro e v5 ⟨rfl, ms⟩
                  have HTA := Lib.hid (HTA.out.kept0 ms)
                  clear ms CS3
                  go_wp2_with fail
                  go_roundw
                  case rel => exact ⟨i2 + 1, by omega, by go_num, Lib.hid ⟨_, _, _, rfl, rfl, HTA.out⟩⟩
                  case measure => simp [intOf]; omega
              · obtain rfl : i2 = 2 := by omega
                have e1 : decide (((2 : Nat) : Int) < 2) = false := by decide
                have CW := Lib.hid (written_any HTA.out.disk)
                rw [HWT.out] at CW
                have e2 : (wrt == wrt) = true := by simp
                go_wp2_with fail
                refine CW.out.mono ?_
                rintro e v5 ⟨rfl, rfl⟩
                go_wp2_with fail
                refine (HKN.out _).mono ?_
                rintro e v6 ⟨rfl, mk⟩
                have HMF := Lib.hid (HTA.out.mod.trans mk)
                clear mk
                go_wp2_with fail
                go_ret
                exact ⟨rfl, HMF.out⟩
end Go.Proofs.Ytnjfgbbdfdoccaa
namespace Go.Proofs.Ytnjfgbbdfdoccaa
open Go.ChangeShapes Go.WideShapes Go.ChangeAt Go.RowKit Go.ChangeMaps Go.Deep
set_option linter.unusedSimpArgs false
set_option linter.unusedVariables false
theorem cellsOpJ : Try.prog.cellsOf 35 = 4 := by kernel_rfl
theorem cellsIntJ : Try.prog.cellsOf 3 = 1 := by kernel_rfl
theorem cellsBytesJ : Try.prog.cellsOf 33 = 1 := by kernel_rfl
theorem cellsU8J : Try.prog.cellsOf 5 = 1 := by kernel_rfl
theorem bytesOfU8J : Try.prog.bytesOf 5 = 1 := by kernel_rfl
theorem list_four {l : List Value} (h : l.length = 4) : ∃ a b c d, l = [a, b, c, d] := by
  match l, h with
  | [a, b, c, d], _ => exact ⟨a, b, c, d, rfl⟩
theorem opj_cells {H : Type} {enc : TypeId × Value → H} {w : World} {n : Nat} {xs : List Value} {d : DataW H} {pl : List MemPlace} (h : DataW.trod enc Try.prog w 0 (fun _ => true) true n 35 xs = some (d, pl)) (hw : Lite Try.prog 35 d) :
    ∃ q : OpJ, xs = [.int .i64 q.kind, .int .i64 q.at_, .int .i64 q.after, q.v] ∧ RowAt enc8 w q.v q.l ∧ IsB q.l ∧ q.l.length ≤ 140737488355328 := by
  obtain ⟨y0, y1, y2, y3, m, rfl', hl, h0, h1, h2, h3⟩ := Go.Joins.trod_struct4 Try.underlying35 h
  simp at rfl'
  obtain ⟨rfl, rfl⟩ := rfl'
  rw [cellsOpJ] at hl
  obtain ⟨x0, x1, x2, x3, rfl⟩ := list_four hl
  simp only [cellsIntJ, cellsBytesJ, List.drop_zero, List.drop_succ_cons, List.take_succ_cons, List.take_zero] at h0 h1 h2 h3
  obtain ⟨k, e0, hy0, _⟩ := DataW.trod_int Try.underlying3 h0
  obtain ⟨t, e1, hy1, _⟩ := DataW.trod_int Try.underlying3 h1
  obtain ⟨u, e2, hy2, _⟩ := DataW.trod_int Try.underlying3 h2
  obtain ⟨y3d, y3p⟩ := y3
  obtain ⟨a, l, cap, e3, hlc, _, hb, hwf, hr⟩ := ints_cells Try.underlying33 Try.underlying5 cellsU8J h3 (hw.field (j := 3) Try.underlying35 rfl rfl)
  simp at e0 e1 e2 e3
  subst e0 e1 e2 e3
  refine ⟨⟨k, t, u, .slice a l.length cap, l⟩, rfl, ?_, fun x hx => ?_, ?_⟩
  · rcases hr with rfl | ⟨b, o, rfl, hr⟩
    · exact .nil a cap
    · exact .at_ b o cap l hlc (by rw [flat8]; exact hr)
  · have := bounds_u8 (hwf x hx)
    omega
  · rw [bytesOfU8J] at hb
    have : reachBytes = 140737488351232 := rfl
    show l.length ≤ _
    omega
theorem opsj_arg {H : Type} {enc : TypeId × Value → H} {w : World} {v : Value} {d : DataW H} {pl : List MemPlace} (h : DataW.Trod enc Try.prog w 0 (fun _ => true) true 22 v d pl) (hv : ∃ a n c, v = .slice a n c) (hw : Lite Try.prog 22 d) :
    ∃ (a : Option Addr) (L : List OpJ) (cap : Nat), v = .slice a L.length cap ∧ L.length ≤ 140737488355328 ∧ OpsJ w a L := by
  obtain ⟨a, n, c, rfl⟩ := hv
  obtain ⟨fuel, hf⟩ := h
  obtain ⟨a', len, cap, m, e, hl, hm, hb, hn, hi⟩ := slice_cells Try.underlying22 (by rw [cellsOpJ]; omega) hf hw
  simp [Value.cells] at e
  obtain ⟨rfl, rfl, rfl⟩ := e
  rw [cellsOpJ] at hi
  have each : ∀ i, i < n → ∃ q : OpJ, ∃ b o, a = some ⟨b, o, none⟩ ∧ OpJAt w b (o + i * 4) q := fun i hlt => by
    obtain ⟨b, o, xs, di, pl, ha, hr, hlen, htr, hli⟩ := hi i (by omega)
    obtain ⟨q, rfl, h1, h2, h3⟩ := opj_cells htr (hli hlt)
    exact ⟨q, b, o, ha, hr, h1, h2, h3⟩
  have hb8 : Try.prog.bytesOf 35 = 48 := by kernel_rfl
  rw [hb8] at hb
  have hrb : reachBytes = 140737488351232 := rfl
  haveI : Inhabited OpJ := ⟨⟨0, 0, 0, .bool true, []⟩⟩
  obtain ⟨Q, hQ⟩ := choose_lt each
  refine ⟨a, (List.range n).map Q, c, by simp, by simp; omega, ⟨fun i q hq => ?_⟩⟩
  have hlt := (List.getElem?_eq_some_iff.1 hq).1
  simp at hlt
  obtain ⟨b, o, ha, ho⟩ := hQ i hlt
  refine ⟨b, o, ha, ?_⟩
  simp [hlt] at hq
  subst hq
  exact ho
theorem bytes8_arg {H : Type} {enc : TypeId × Value → H} {w : World} {v : Value} {d : DataW H} {pl : List MemPlace} (h : DataW.Trod enc Try.prog w 0 (fun _ => true) true 33 v d pl) (hv : ∃ a n c, v = .slice a n c) (hw : Lite Try.prog 33 d) :
    ∃ (a : Option Addr) (l : List Int) (cap : Nat), v = .slice a l.length cap ∧ RowAt enc8 w (.slice a l.length cap) l ∧ IsB l ∧ l.length ≤ 140737488355328 := by
  obtain ⟨a, n, c, rfl⟩ := hv
  obtain ⟨fuel, hf⟩ := h
  obtain ⟨a', l, cap, e, hlc, _, hb, hwf, hr⟩ := ints_cells Try.underlying33 Try.underlying5 cellsU8J hf hw
  simp [Value.cells] at e
  obtain ⟨rfl, rfl, rfl⟩ := e
  refine ⟨a, l, c, rfl, ?_, fun x hx => ?_, ?_⟩
  · rcases hr with rfl | ⟨b, o, rfl, hr⟩
    · exact .nil a c
    · exact .at_ b o c l hlc (by rw [flat8]; exact hr)
  · have := bounds_u8 (hwf x hx)
    omega
  · rw [bytesOfU8J] at hb
    have : reachBytes = 140737488351232 := rfl
    omega
set_option maxRecDepth 100000 in
theorem journalCrash_lifted (os : Os) (started : os.Started) (H : Type) (enc : TypeId × Value → H) :
    ReturnsInHanded {} Try.checked os 4 .any (Rows.journalCrashSpec.pre6 enc Try.prog Try.f4 Rows.journalCrashRow.domain false) (Rows.journalCrashSpec.post enc Try.prog Try.f4 false true false false) := by
  refine returnsInHanded_of_change_sized (C := Try.checked) own started (by kernel_rfl) Try.func4
    (ChangeSpec.witness6 (enc := enc) (C := Try.checked) false ⟨#[], #[.int .i64 0, .slice none 0 0, .int .i64 0, .slice none 0 0], []⟩ 8 (by kernel_rfl) (by kernel_rfl) (by kernel_rfl) (by kernel_rfl)) ?_
  intro W base args ds gs before hval0 hW hcnd hsz _
  have hval : ∀ (j : Nat) t v, Try.f4.params[j]? = some t → args[j]? = some v → Value.okWide Try.prog W .any base t v := hval0
  have hW' := hW
  obtain ⟨p, q, hA0, hV, rfl, hfz, hnd⟩ := hW
  have hA : DataW.TrodAll enc Try.prog W 0 (fun _ => true) true Try.f4.params.toList args.toList ds p := hA0
  have hsz' : (DataW.weightsEach Try.prog (Try.f4.params.toList ++ (ChangeSpec.plain Rows.journalCrashSpec).varTypes Try.prog) (ds ++ gs)).all (· ≤ reachBytes) = true := hsz
  rw [Try.params4] at hA hval hsz'
  obtain ⟨v0, vs0, d0, ds0, p0, q0, hargs, rfl, rfl, h0, r0⟩ := trodAll_cons hA
  obtain ⟨v1, vs1, d1, ds1, p1, q1, rfl, rfl, rfl, h1, r1⟩ := trodAll_cons r0
  obtain ⟨v2, vs2, d2, ds2, p2, q2, rfl, rfl, rfl, h2, r2⟩ := trodAll_cons r1
  obtain ⟨v3, vs3, d3, ds3, p3, q3, rfl, rfl, rfl, h3, r3⟩ := trodAll_cons r2
  obtain ⟨rfl, rfl, rfl⟩ := trodAll_nil r3
  obtain rfl : args = #[v0, v1, v2, v3] := by cases args; simp_all
  obtain ⟨rfl, rfl⟩ := trodVars_none hV
  have hl1 : Lite Try.prog 22 d1 := Lite.of hsz' (j := 1) rfl rfl
  have hl3 : Lite Try.prog 33 d3 := Lite.of hsz' (j := 3) rfl rfl
  obtain ⟨a0, rfl, rfl, rfl, w0⟩ := open_int Try.underlying3 (hval 0 3 v0 rfl rfl) h0
  obtain ⟨a2, rfl, rfl, rfl, w2⟩ := open_int Try.underlying3 (hval 2 3 v2 rfl rfl) h2
  obtain ⟨a, L, cap, rfl, hm, hL⟩ := opsj_arg h1 (okWide_slice Try.underlying22 (hval 1 22 v1 rfl rfl)) hl1
  obtain ⟨ta, T, tc, rfl, hT, hTb, hTl⟩ := bytes8_arg h3 (okWide_slice Try.underlying33 (hval 3 33 v3 rfl rfl)) hl3
  clear hA0 hval0
  have hb2 : a2 ≤ 9223372036854775807 := by
    simp only [Lit.wf, IntKind.min, IntKind.max, IntKind.signed, IntKind.bits, Bool.and_eq_true, decide_eq_true_eq] at w2
    have := w2.2
    simp at this
    omega
  refine (crash_walk (cap := cap) a0 a2 hL hm hT hTb hTl hb2).mono fun e W' ⟨he, hg⟩ => ⟨_, he, law_post ?_ hW' hg.toBelow rfl rfl rfl⟩
  rw [Try.params4]
  simp only [List.mem_cons, List.not_mem_nil, or_false]
  rintro t (rfl | rfl | rfl | rfl)
  all_goals exact ⟨by kernel_rfl, of_decide_eq_true (by kernel_rfl)⟩
theorem journalCrash_holds : Rows.JournalCrashSaid :=
  OpenClaim.holds_of_wide 4 Try.f4 rfl rfl rfl rfl rfl rfl rfl ⟨rfl, rfl, rfl, rfl, rfl⟩ rfl rfl rfl rfl rfl (by kernel_rfl) Try.func4 (by kernel_rfl)
    (of_decide_eq_true (by kernel_rfl)) (by unfold Func.isWrapper; first | (rw [if_pos (by decide +kernel)]; kernel_rfl) | (rw [if_neg (by decide +kernel)]; exact ⟨rfl, rfl⟩))
    (fun os started H enc _ => journalCrash_lifted os started H enc)
#print axioms journalCrash_holds
end Go.Proofs.Ytnjfgbbdfdoccaa

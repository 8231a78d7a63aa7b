/- Copies: a whole block, all of a slice behind an empty one, maps.Clone; both disks' Copy. -/
import Derived.Test.YtnoookcfacmdkaaDiskU
import Derived.Shelf.SlMaps.Clone
namespace Go.Proofs.Ytnoookcfacmdkaa
open Go.RowKit Go.ChangeMaps
set_option linter.unusedSimpArgs false
set_option linter.unusedVariables false

theorem load_whole {P : Program} {w : World} {b : Nat} {c : Array Value} {t : TypeId} {f : Nat × Nat} (T : TypeId) {d : TypeDesc} (h : w.heap[b]? = some (.cells c t f)) (hu : P.underlying T = some d) (hd : d.isRow = true) (hi : (P.info? T).map (·.size) = some c.size) :
    (Instr.loadAt T (.pointer (some ⟨b, 0, none⟩))).run P w = .ok (.agg c) w := by
  have h1 := run_loadAt_mid (P := P) w b 0 T c.toList d (rangeAt_blk (c := c.toList) (by simpa using h)) hu hd (by simpa using hi)
  simpa using h1
theorem store_whole {P : Program} {w : World} {b : Nat} {c c0 : Array Value} {t : TypeId} (T : TypeId) (h : w.heap[b]? = some (.cells c0 t (0, 0))) (hs : c0.size = c.size) (hi : (P.info? T).map (·.size) = some c.size) (h1 : c.all (·.oneCell') = true) :
    (Instr.storeAt T (.pointer (some ⟨b, 0, none⟩)) (.agg c)).run P w = .ok () (w.setCells b 0 c.toList) ∧ Mod [b] w (w.setCells b 0 c.toList) ∧ (w.setCells b 0 c.toList).heap[b]? = some (.cells c t (0, 0)) := by
  refine ⟨run_storeAt_mid w b 0 T c (there_blk h 0 c.size (by omega)) hi h1, (Mod.refl _ _).setCells (by simp) _ _, ?_⟩
  rw [heap_setCells_blk b c.toList 0 w h]
  have e := setRange_mid [] c.toList c0.toList [] (by simp [hs])
  simp only [List.nil_append, List.append_nil, List.length_nil] at e
  rw [e]
/-- A block of the call's own in which a slice begins. -/
def OwnCells (w : World) (base : Nat) (e : TypeId) (size : Nat) (v : Value) (n : Nat) (xs : List Value) : Prop :=
  ∃ g cap cur, v = .slice (some ⟨g, 0, none⟩) n cap ∧ base ≤ g ∧ w.heap[g]? = some (.cells cur e (0, 0)) ∧ n ≤ cap ∧ cap ≤ maxLen ∧ cur.size = cap * size ∧ cur.toList.take (n * size) = xs
theorem append_all {P : Program} {w : World} (base : Nat) (t e : TypeId) (i : TypeInfo) (z : Value) (size bytes : Nat) (ht : P.underlying t = some (.slice e)) (hi : P.info? e = some i) (hz : i.zero = some z)
    (hsize : i.size = size) (hby : i.bytes = bytes) (hzs : z.cells.size = size) (hsz : 0 < size) {g0 : Nat} (h0 : w.heap[g0]? = some (.cells #[] e (0, 0))) (hb0 : base ≤ g0)
    {x : Value} {n : Nat} {news : List Value} (hx : (∃ ad c, x = .slice (some ad) n c ∧ ∀ j u, news[j]? = some u → w.cell? (ad.add j) = some u) ∨ (∃ c, x = .slice none 0 c ∧ n = 0)) (hl : news.length = n * size) (h1 : ∀ u ∈ news, u.oneCell' = true) (h63 : n ≤ maxLen) (hbytes : n * bytes ≤ 140737488355328) (ty : TypeId) :
    ∃ v' w', (Builtin.append_ #[t, t] ty #[.slice (some ⟨g0, 0, none⟩) 0 0, x]).run P w = .ok v' w' ∧ OwnCells w' base e size v' n news ∧ Mod [g0] w w' := by
  have hlt := lt_of_heap h0
  have hown : w.ownsRow base e size (.slice (some ⟨g0, 0, none⟩) 0 0) 0 [] := ⟨by simp, .inr ⟨g0, 0, #[], rfl, hb0, h0, Nat.le_refl _, by simp, by simp, by simp⟩⟩
  rcases hx with ⟨ad, c, rfl, hc⟩ | ⟨c, rfl, rfl⟩
  · obtain ⟨v', w', k1, k2, k3, k4⟩ := run_append_own (P := P) w base t ty e i z size bytes ht hi hz hsize hby hzs hsz _ 0 [] hown ad n c news hl
      hc h1 (by omega) (by simpa using hbytes) (by omega)
    refine ⟨v', w', k1, ?_, Mod.grown k3 fun k hk => .inl (by simpa [Value.ownBlock] using hk.symm)⟩
    rw [Nat.zero_add, List.nil_append] at k2
    rcases k2.2 with ⟨hv, hn⟩ | hr
    · have := (k4.1 hv).1
      cases this
    · exact hr
  · have hn : news = [] := List.length_eq_zero_iff.1 (by simpa using hl)
    subst hn
    refine ⟨.slice (some ⟨g0, 0, none⟩) 0 0, w, ?_, ⟨g0, 0, #[], rfl, hb0, h0, Nat.le_refl _, by simp, by simp, by simp⟩, Mod.refl _ _⟩
    simp [Builtin.append_, run_underlying ht, sizeOf, typeInfo, hi, Builtin.lenOf, Builtin.firstCells, storeCells, Result.andThen]
set_option maxRecDepth 10000 in
theorem clone_any {w : World} {m : Nat} {f : Int → Option Value} (h : MapAt w m f) :
    Calls Try.prog 36 #[.map (some m)] w fun e w' => e = .returned (.map (some w.heap.size)) ∧ Mod [] w w' ∧ MapAt w' w.heap.size f := by
  obtain ⟨es, clock, hb, hi⟩ := h
  have hq := fun w => run_eql_map_nil_sl (P := Try.prog) w 63 _ _ (some m) Try.underlying63
  have hc := run_maps_clone_sl (P := Try.prog) w 63 hb
  have HI := Lib.hid hi
  have HB := Lib.hid hb
  have HC := Lib.hid hc
  clear hi hb hc
  go_enter Try.func36, Try.ntmps36
  go_wp2_with fail
  rw [run_callFunc_extern Try.func56 (by kernel_rfl) (by kernel_rfl) (by kernel_rfl) (e := Extern.MapsClone.clone) (by kernel_rfl), HC.out]
  simp only [Result.andThen]
  rw [Oper.upon_value]
  go_wp2_with fail
  rw [run_typeAssert_map_sl _ 63 _ _ _ _ Try.underlying63]
  simp only [Result.andThen]
  rw [Oper.upon_value]
  go_wp2_with fail
  go_ret
  exact ⟨rfl, (Mod.refl _ _).alloc _, es, clock, heap_alloc_new w _, HI.out⟩
end Go.Proofs.Ytnoookcfacmdkaa

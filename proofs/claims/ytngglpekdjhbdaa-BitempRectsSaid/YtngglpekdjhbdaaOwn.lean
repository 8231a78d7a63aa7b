/- Slices of the call's own that grow by append, whatever is appended; what grows from what. No program is named here. -/
import Derived.Test.YtngglpekdjhbdaaKit
import Derived.Deep.AppendSrc
import Derived.OwnWalk
import Derived.Deep.MidRow
namespace Go.Proofs.Ytngglpekdjhbdaa
open Go.RowKit
set_option linter.unusedSimpArgs false
set_option linter.unusedVariables false

/-- The block in which a slice begins, if it is of the call's own. -/
def blk (v : Value) : List Nat := v.ownBlock.toList
/-- v' has grown out of v. -/
structure Grew (w : World) (v : Value) (w' : World) (v' : Value) : Prop where
  mod : Mod (blk v) w w'
  heir : v'.ownBlock = v.ownBlock ∨ ∀ k, v'.ownBlock = some k → w.heap.size ≤ k
theorem mem_blk {v : Value} {k : Nat} : k ∈ blk v ↔ v.ownBlock = some k := by
  unfold blk
  cases v.ownBlock <;> simp [eq_comm]
theorem Grew.refl (w : World) (v : Value) : Grew w v w v := ⟨Mod.refl _ _, .inl rfl⟩
theorem Grew.trans {w w1 w2 : World} {v v1 v2 : Value} (h : Grew w v w1 v1) (k : Grew w1 v1 w2 v2) : Grew w v w2 v2 := by
  have hs := h.mod.size
  refine ⟨⟨k.mod.os.trans h.mod.os, k.mod.tape.trans h.mod.tape, k.mod.output.trans h.mod.output, Nat.le_trans hs k.mod.size, fun b hb hn => ?_⟩, ?_⟩
  · refine (k.mod.block b (by omega) fun hm => ?_).trans (h.mod.block b hb hn)
    rw [mem_blk] at hm
    rcases h.heir with e | e
    · exact hn (mem_blk.2 (e ▸ hm))
    · have := e b hm; omega
  · rcases k.heir with e | e
    · rcases h.heir with e' | e'
      · exact .inl (e.trans e')
      · exact .inr fun b hb => e' b (e ▸ hb)
    · exact .inr fun b hb => by have := e b hb; omega
theorem Grew.step {w w1 w2 : World} {v v1 : Value} (h : Grew w v w1 v1) (k : Mod [] w1 w2) : Grew w v w2 v1 := h.trans ⟨k.nil, .inl rfl⟩
theorem Grew.of {w w1 : World} (v : Value) (k : Mod [] w w1) : Grew w v w1 v := ⟨k.nil, .inl rfl⟩
theorem ownsRow_kept {w w' : World} {base : Nat} {e : TypeId} {size : Nat} {v : Value} {n : Nat} {xs : List Value} {l : List Nat} (h : w.ownsRow base e size v n xs) (hm : Mod l w w') (hn : ∀ k, v.ownBlock = some k → k ∉ l) : w'.ownsRow base e size v n xs := by
  obtain ⟨h1, h2⟩ := h
  refine ⟨h1, h2.imp id ?_⟩
  rintro ⟨g, cap, cur, rfl, hb, hg, hr⟩
  exact ⟨g, cap, cur, rfl, hb, hm.heap hg (hn g rfl), hr⟩
theorem ownsRow_kept0 {w w' : World} {base : Nat} {e : TypeId} {size : Nat} {v : Value} {n : Nat} {xs : List Value} (h : w.ownsRow base e size v n xs) (hm : Mod [] w w') : w'.ownsRow base e size v n xs := ownsRow_kept h hm (by simp)
/-- What grew out of a slice of the call's own turned nothing that was there when the call began. -/
theorem Grew.intoNil {w0 w w' : World} {base : Nat} {e : TypeId} {size : Nat} {v v' : Value} {n : Nat} {xs : List Value} (h : Grew w v w' v') (hown : w.ownsRow base e size v n xs) (hb : w0.heap.size ≤ base) (h0 : Mod [] w0 w) : Mod [] w0 w' :=
  ⟨h.mod.os.trans h0.os, h.mod.tape.trans h0.tape, h.mod.output.trans h0.output, Nat.le_trans h0.size h.mod.size, fun k hk _ =>
    (h.mod.block k (Nat.lt_of_lt_of_le hk h0.size) (fun hm => by have := (hown.lt k (mem_blk.1 hm)).1; omega)).trans (h0.block k hk (by simp))⟩
section
variable {P : Program} {w : World}
theorem append_own (base : Nat) (t tx ty e : TypeId) (i : TypeInfo) (z : Value) (size bytes : Nat) (ht : P.underlying t = some (.slice e)) (hi : P.info? e = some i) (hz : i.zero = some z)
    (hsize : i.size = size) (hby : i.bytes = bytes) (hzs : z.cells.size = size) (hsz : 0 < size)
    {v : Value} {n : Nat} {xs : List Value} (hown : w.ownsRow base e size v n xs) {x : Value} {m : Nat} {news : List Value} (hs : Src P size tx x m news w)
    (h63 : n + m ≤ maxLen) (hbytes : (n + m) * bytes ≤ 140737488355328) (hbase : base ≤ w.heap.size) :
    ∃ v' w', (Builtin.append_ #[t, tx] ty #[v, x]).run P w = .ok v' w' ∧ w'.ownsRow base e size v' (n + m) (xs ++ news) ∧ Grew w v w' v' := by
  subst hsize
  subst hby
  have hsmall : n + m ≤ 9223372036854775807 := by simp only [maxLen] at h63; omega
  have hl := hs.newsLen
  have hlen : (xs ++ news).length = (n + m) * i.size := by rw [List.length_append, hown.1, hl, Nat.add_mul]
  have grown : ∀ (old : Nat), old < n + m →
      (w.drew.alloc (.cells ((xs ++ news).toArray ++ Builtin.zeroCells z.cells (grownCap w (n + m) old e - (n + m))) e)).ownsRow base e i.size
        (.slice (some ⟨w.heap.size, 0, none⟩) (n + m) (grownCap w (n + m) old e)) (n + m) (xs ++ news) ∧
      Grew w v (w.drew.alloc (.cells ((xs ++ news).toArray ++ Builtin.zeroCells z.cells (grownCap w (n + m) old e - (n + m))) e)) (.slice (some ⟨w.heap.size, 0, none⟩) (n + m) (grownCap w (n + m) old e)) := by
    intro old ho
    have hge := grownCap_ge w (n + m) old e
    have hcm : grownCap w (n + m) old e ≤ maxLen := grownCap_le_maxLen w (n + m) old e h63
    refine ⟨⟨hlen, .inr ⟨w.heap.size, _, _, rfl, hbase, heap_alloc_new w.drew _, hge, hcm, ?_, ?_⟩⟩, ⟨((Mod.refl _ w).drew).alloc _, .inr fun k hk => by simp [Value.ownBlock] at hk; omega⟩⟩
    · simp only [Array.size_append, List.size_toArray, size_zeroCells, hzs, hlen, ← Nat.add_mul]
      congr 1
      omega
    · simp only [Array.toList_append]
      rw [← hlen]
      exact List.take_left
  rcases hown.2 with ⟨rfl, rfl⟩ | ⟨g, cap, cur, rfl, hbg, hg, hnc, hcm, hcs, htake⟩
  · have hx : xs = [] := List.eq_nil_of_length_eq_zero (by simpa using hown.1)
    subst hx
    by_cases hm : m = 0
    · subst hm
      have hn : news = [] := List.eq_nil_of_length_eq_zero (by simpa using hl)
      subst hn
      refine ⟨.slice none 0 0, w, ?_, World.ownsRow_nil w base e i.size, Grew.refl _ _⟩
      rcases hs.kind with ⟨e', hk⟩ | hk <;>
        simp [Builtin.append_, run_underlying ht, run_underlying hk, sizeOf, typeInfo, hi, hs.len, hs.cells, storeCells]
    · have hold : (Builtin.firstCells i.size 0 (.slice none 0 0)).run P w.drew = .ok (#[] : Array Value) w.drew := run_firstCells_none w.drew i.size 0 0 0
      have hr := run_append_grow_src (P := P) w t tx ty e i z ht hi hz none 0 0 [] (by simpa using hold) x m news hs (by omega) (by omega) (growslice_fits (by omega) (by simpa using hbytes))
      have hgr := grown 0 (by omega)
      simp only [Nat.zero_add, List.nil_append] at hgr hr ⊢
      exact ⟨_, _, hr, hgr.1, hgr.2⟩
  · by_cases hroom : n + m ≤ cap
    · have hfit : n * i.size + news.length ≤ cur.size := by rw [hl, hcs, ← Nat.add_mul]; exact Nat.mul_le_mul_right _ hroom
      have hth := there_blk hg (n * i.size) news.length hfit
      have hr := run_append_room_src (P := P) w t tx ty e i ht hi g 0 n cap x m news hs hroom (fun j hj => by rw [Nat.zero_add]; exact (hth j hj).1) (fun j hj => by rw [Nat.zero_add]; exact (hth j hj).2)
      have hcur : cur = (cur.toList.take (n * i.size) ++ ((cur.toList.drop (n * i.size)).take news.length ++ (cur.toList.drop (n * i.size)).drop news.length)).toArray := by
        rw [List.take_append_drop, List.take_append_drop]
      have hset := heap_setCells_blk g news (n * i.size) w hg
      have hmid := setRange_mid (cur.toList.take (n * i.size)) news ((cur.toList.drop (n * i.size)).take news.length) ((cur.toList.drop (n * i.size)).drop news.length) (by
        simp only [List.length_take, List.length_drop, Array.length_toList]
        omega)
      have hle : n * i.size ≤ cur.toList.length := by rw [Array.length_toList]; omega
      rw [List.length_take, Nat.min_eq_left hle, List.take_append_drop, List.take_append_drop] at hmid
      rw [hmid] at hset
      simp only [Nat.zero_add] at hr
      refine ⟨_, _, hr, ⟨hlen, .inr ⟨g, cap, _, rfl, hbg, hset, hroom, hcm, ?_, ?_⟩⟩, ⟨(Mod.refl _ w).setCells (by simp [blk, Value.ownBlock]) _ _, .inl rfl⟩⟩
      · simp only [List.size_toArray, List.length_append, List.length_take, List.length_drop, Array.length_toList]
        omega
      · rw [htake, ← hlen, ← List.append_assoc]
        exact List.take_left
    · have holds : ∀ j u, xs[j]? = some u → w.cell? ((⟨g, 0, none⟩ : Addr).add j) = some u := hown.cells (g := g) rfl
      have hold := run_firstCells_some (P := P) w.drew i.size n ⟨g, 0, none⟩ n cap xs hown.1 (by simpa using holds)
      have hr := run_append_grow_src (P := P) w t tx ty e i z ht hi hz (some ⟨g, 0, none⟩) n cap xs hold x m news hs (by omega) (by omega) (growslice_fits (by omega) hbytes)
      have hgr := grown cap (by omega)
      exact ⟨_, _, hr, hgr.1, hgr.2⟩
end
end Go.Proofs.Ytngglpekdjhbdaa

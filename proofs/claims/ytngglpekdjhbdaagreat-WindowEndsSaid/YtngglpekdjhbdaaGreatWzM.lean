/- Layer 8: all of a way is balanced. -/
import Derived.Test.YtngglpekdjhbdaaGreatWzD
import Derived.Test.YtngglpekdjhbdaaGreatWzL
namespace Go.Proofs.YtngglpekdjhbdaaGreat
open Go.RowKit Go.ChangeMaps Go.Deep Tr
set_option linter.unusedSimpArgs false
set_option linter.unusedVariables false
set_option maxRecDepth 20000

theorem mended_at {w : World} {b0 : Nat} {nv fv : Value} {ns : List Nd} {fr : List Int} {root many : Int} (h0 : TreeAt w b0 nv fv ns fr root many) {p : Nat} {l r : Tr} {x : It} {h t : Int} (hp : ns[p]? = some ⟨x, l.at_, r.at_, h, t, true⟩) (hl : rep ns l) (hr : rep ns r) (hn : (p :: (l.places ++ r.places)).Nodup) (bl : l.ht ≤ 800) (br : r.ht ≤ 800) :
    Calls Tryz.prog 80 #[.pointer (some ⟨b0, 0, none⟩), .int .i64 p] w (TPost w b0 nv fv (mendedN ns p).1 fr root many (.int .i64 (mendedN ns p).2)) := by
  have hpl := (List.nodup_cons.1 hn).1
  have pl : p ∉ l.places := fun e => hpl (List.mem_append_left _ e)
  have pr : p ∉ r.places := fun e => hpl (List.mem_append_right _ e)
  have hl0 := ht_nonneg l
  have hr0 := ht_nonneg r
  by_cases h1 : 1 < r.ht - l.ht
  · cases r with
    | nil => simp only [ht] at h1; omega
    | node q a y b =>
      by_cases hab : b.ht < a.ht
      · cases a with
        | nil => have := ht_nonneg b; simp only [ht] at hab; omega
        | node s c z d => exact mended_rd h0 hp hl hr hn bl br h1 hab
      · exact mended_rs h0 hp hl hr hn bl br h1 hab
  · by_cases h2 : 1 < l.ht - r.ht
    · cases l with
      | nil => simp only [ht] at h2; omega
      | node q a y b =>
        by_cases hab : a.ht < b.ht
        · cases b with
          | nil => have := ht_nonneg a; simp only [ht] at hab; omega
          | node s c z d => exact mended_ld h0 hp hl hr hn bl br h2 hab
        · exact mended_ls h0 hp hl hr hn bl br h2 hab
    · exact mended_even h0 hp hl hr pl pr bl br (by omega) (by omega)
namespace Tr
/-- one step of balancing along a way -/
structure MStep (ns : List Nd) (T : Tr) (f : Fr) (fs : List Fr) (N : List Nd) (T' : Tr) (n2 : List Nd) : Prop where
  hang : hangN ns f.p f.d T.at_ = N
  tree : T' = if f.d = true then mend f.p f.o f.x T else mend f.p T f.x f.o
  mended : mendedN N f.p = (n2, T'.at_)
  rep : T'.rep n2
  rest : RestOk n2 fs
  nodup : (T'.places ++ fs.flatMap Fr.places).Nodup
  len : n2.length = ns.length
  other : ∀ i, i ∉ T.places ++ (f :: fs).flatMap Fr.places → n2[i]? = ns[i]?
  mem : ∀ i, i ∈ T'.places ↔ i = f.p ∨ i ∈ f.o.places ∨ i ∈ T.places
  call : ∃ l r hh t, N[f.p]? = some ⟨f.x, l.at_, r.at_, hh, t, true⟩ ∧ Tr.rep N l ∧ Tr.rep N r ∧ (f.p :: (l.places ++ r.places)).Nodup ∧ ((l = f.o ∧ r = T) ∨ (l = T ∧ r = f.o))
theorem mend_step (f : Fr) (fs : List Fr) (ns : List Nd) (T : Tr) (hT : rep ns T) (hR : RestOk ns (f :: fs)) (hn : (T.places ++ (f :: fs).flatMap Fr.places).Nodup) : ∃ N T' n2, MStep ns T f fs N T' n2 := by
  obtain ⟨⟨lk, hh, t, hf⟩, ho⟩ := hR f (by simp)
  simp only [List.flatMap_cons, Fr.places] at hn
  obtain ⟨n1, n2, n3⟩ := List.nodup_append.1 hn
  obtain ⟨n4, n5, n6⟩ := List.nodup_append.1 n2
  obtain ⟨n7, n8⟩ := List.nodup_cons.1 n4
  have pT : f.p ∉ T.places := fun e => n3 f.p e f.p (by simp) rfl
  have po : f.p ∉ f.o.places := n7
  have hTR : RestOk ns fs := fun g hg => hR g (by simp [hg])
  have hdo : ∀ i ∈ T.places, i ∉ f.o.places := fun i hi e => n3 i hi i (by simp [e]) rfl
  have hfs : ∀ i ∈ fs.flatMap Fr.places, i ≠ f.p ∧ i ∉ f.o.places ∧ i ∉ T.places := fun i hi => ⟨fun e => n6 f.p (by simp) i hi e.symm, fun e => n6 i (by simp [e]) i hi rfl, fun e => n3 i e i (by simp only [List.mem_append]; exact .inr hi) rfl⟩
  obtain ⟨N, hN⟩ : ∃ N, hangN ns f.p f.d T.at_ = N := ⟨_, rfl⟩
  have hlen : N.length = ns.length := by rw [← hN]; simp [hangN]
  have hoth : ∀ i, i ≠ f.p → N[i]? = ns[i]? := fun i hi => by rw [← hN]; exact set_other hi
  have hTN : rep N T := rep_congr (fun q hq => hoth q (fun e => pT (e ▸ hq))) hT
  have hoN : rep N f.o := rep_congr (fun q hq => hoth q (fun e => po (e ▸ hq))) ho
  have hpN : N[f.p]? = some (if f.d = true then ⟨f.x, f.o.at_, T.at_, hh, t, true⟩ else ⟨f.x, T.at_, f.o.at_, hh, t, true⟩) := by
    rw [← hN]
    unfold hangN
    rw [set_self hf, nodeN_some hf]
    cases f.d <;> rfl
  obtain ⟨T', hT'⟩ : ∃ T', (if f.d = true then mend f.p f.o f.x T else mend f.p T f.x f.o) = T' := ⟨_, rfl⟩
  have P : Part N (f.p :: (f.o.places ++ T.places)) T' (mendedN N f.p).1 (mendedN N f.p).2 := by
    rw [← hT']
    cases hd : f.d with
    | true =>
      rw [hd] at hpN
      refine mendedN_part hpN hoN hTN (List.nodup_cons.2 ⟨by simp [po, pT], List.nodup_append.2 ⟨n8, n1, fun a ha b hb e => hdo b hb (e ▸ ha)⟩⟩)
    | false =>
      rw [hd] at hpN
      have := mendedN_part hpN hTN hoN (List.nodup_cons.2 ⟨by simp [po, pT], List.nodup_append.2 ⟨n1, n8, fun a ha b hb e => hdo a ha (e ▸ hb)⟩⟩)
      exact ⟨this.rep, this.root, this.len, fun i hi => this.other i (fun h => hi (by
        simp only [List.mem_cons, List.mem_append] at h ⊢
        rcases h with h | h | h
        · exact .inl h
        · exact .inr (.inr h)
        · exact .inr (.inl h)))⟩
  have hperm : T'.places.Perm (f.p :: (f.o.places ++ T.places)) := by
    rw [← hT']
    cases hd : f.d with
    | true => exact places_mend _ _ _ _
    | false =>
      rw [if_neg (by simp)]
      exact (places_mend _ _ _ _).trans (List.Perm.cons _ List.perm_append_comm)
  have hmem : ∀ i, i ∈ T'.places ↔ i = f.p ∨ i ∈ f.o.places ∨ i ∈ T.places := fun i => by rw [hperm.mem_iff]; simp
  have hRN : RestOk (mendedN N f.p).1 fs := hTR.congr fun i hi => by
    obtain ⟨e1, e2, e3⟩ := hfs i hi
    rw [P.other i (by simp [e1, e2, e3]), hoth i e1]
  have hn' : (T'.places ++ fs.flatMap Fr.places).Nodup := List.nodup_append.2 ⟨hperm.nodup_iff.2 (List.nodup_cons.2 ⟨by simp [po, pT], List.nodup_append.2 ⟨n8, n1, fun a ha b hb e => hdo b hb (e ▸ ha)⟩⟩), n5, fun a ha b hb e => by
    obtain ⟨e1, e2, e3⟩ := hfs b hb
    rcases (hmem a).1 ha with h | h | h
    · exact e1 (e ▸ h)
    · exact e2 (e ▸ h)
    · exact e3 (e ▸ h)⟩
  refine ⟨N, T', (mendedN N f.p).1, hN, hT'.symm, Prod.ext rfl P.root, P.rep, hRN, hn', by rw [P.len, hlen], fun i hi => ?_, hmem, ?_⟩
  · simp only [List.flatMap_cons, Fr.places, List.mem_append, List.mem_cons, not_or] at hi
    obtain ⟨i1, ⟨i2, i3⟩, i4⟩ := hi
    rw [P.other i (by simp [i1, i2, i3]), hoth i i2]
  · cases hd : f.d with
    | true =>
      rw [hd] at hpN
      exact ⟨f.o, T, hh, t, hpN, hoN, hTN, List.nodup_cons.2 ⟨by simp [po, pT], List.nodup_append.2 ⟨n8, n1, fun a ha b hb e => hdo b hb (e ▸ ha)⟩⟩, .inl ⟨rfl, rfl⟩⟩
    | false =>
      rw [hd] at hpN
      exact ⟨T, f.o, hh, t, hpN, hTN, hoN, List.nodup_cons.2 ⟨by simp [po, pT], List.nodup_append.2 ⟨n1, n8, fun a ha b hb e => hdo a ha (e ▸ hb)⟩⟩, .inr ⟨rfl, rfl⟩⟩
theorem mend_ht (p : Nat) (l : Tr) (x : It) (r : Tr) : (mend p l x r).ht ≤ 1 + max l.ht r.ht := by
  unfold mend
  split
  · rename_i hc
    cases r with
    | nil => simp only [ht] at *; omega
    | node q a y b =>
      dsimp only
      split
      · cases a with
        | nil => simp only [rotR, rotL, ht] at *; omega
        | node s c z d => simp only [rotR, rotL, ht] at *; omega
      · simp only [rotL, ht] at *; omega
  · split
    · rename_i hc0 hc
      cases l with
      | nil => simp only [ht] at *; omega
      | node q a y b =>
        dsimp only
        split
        · cases b with
          | nil => simp only [rotR, rotL, ht] at *; omega
          | node s c z d => simp only [rotR, rotL, ht] at *; omega
        · simp only [rotR, ht] at *; omega
    · simp only [ht]; omega
end Tr
/-- a way in block b, from the root on -/
structure PathAt (w : World) (b : Nat) (ps : List (Nat × Bool)) : Prop where
  len : ps.length ≤ 40
  ex : ∃ C : Array Value, w.heap[b]? = some (.cells C 124 (0, 0)) ∧ C.size = 81 ∧ (∀ i q, ps[i]? = some q → C[i]? = some (.int .i64 q.1) ∧ C[40 + i]? = some (.bool q.2)) ∧ C[80]? = some (.int .i64 ps.length)
theorem PathAt.kept {w w' : World} {b : Nat} {ps : List (Nat × Bool)} {ks : List Nat} (h : PathAt w b ps) (hm : Mod ks w w') (hb : b ∉ ks) : PathAt w' b ps := by
  obtain ⟨C, h1, h2⟩ := h.ex
  exact ⟨h.len, C, hm.heap h1 hb, h2⟩
theorem PathAt.at_ {w : World} {b : Nat} {ps : List (Nat × Bool)} (h : PathAt w b ps) {i : Nat} {q : Nat × Bool} (hi : ps[i]? = some q) : w.cell? ⟨b, i, none⟩ = some (.int .i64 q.1) ∧ w.cell? ⟨b, 40 + i, none⟩ = some (.bool q.2) := by
  obtain ⟨C, h1, h2, h3, h4⟩ := h.ex
  rw [cell_blk h1, cell_blk h1]
  exact h3 i q hi
theorem PathAt.n {w : World} {b : Nat} {ps : List (Nat × Bool)} (h : PathAt w b ps) : w.cell? ⟨b, 80, none⟩ = some (.int .i64 ps.length) := by
  obtain ⟨C, h1, h2, h3, h4⟩ := h.ex
  rw [cell_blk h1]
  exact h4
theorem TreeAt.root {w : World} {b : Nat} {nv fv : Value} {ns : List Nd} {fr : List Int} {root many : Int} (h : TreeAt w b nv fv ns fr root many) (r : Int) : TreeAt (w.setCell ⟨b, 3, none⟩ (.int .i64 r)) b nv fv ns fr r many ∧ Mod [b] w (w.setCell ⟨b, 3, none⟩ (.int .i64 r)) := by
  have hm : Mod [b] w (w.setCell ⟨b, 3, none⟩ (.int .i64 r)) := (Mod.refl _ _).setCell (by simp) _
  refine ⟨⟨?_, h.row.kept hm (fun k hk hb => h.bn (by rw [List.mem_singleton] at hb; rw [← hb]; exact hk)), h.free.kept hm (fun k hk hb => h.bf (by rw [List.mem_singleton] at hb; rw [← hb]; exact hk)), h.bn, h.bf, h.nf⟩, hm⟩
  rw [heap_setCell_blk h.blk]
  simp
/-- what a call that may turn the root leaves -/
def RPost (w : World) (b : Nat) (nv fv : Value) (ns : List Nd) (fr : List Int) (root many : Int) (v : Value) (e : Ending) (w' : World) : Prop := e = .returned v ∧ TreeAt w' b nv fv ns fr root many ∧ Mod (b :: blk nv) w w'
theorem above_first {w : World} {b pb : Nat} {nv fv : Value} {ns : List Nd} {fr : List Int} {root many : Int} (h : TreeAt w b nv fv ns fr root many) (below : Int) :
    Calls Tryz.prog 65 #[.pointer (some ⟨b, 0, none⟩), .pointer (some ⟨pb, 0, none⟩), .int .i64 0, .int .i64 below] w (RPost w b nv fv ns fr below many (.tuple #[])) := by
  obtain ⟨h1, h2⟩ := h.root below
  have f3 := frozen_blk h.blk 3
  have c3 := cell_blk h.blk 3
  simp only [List.getElem?_toArray, List.getElem?_cons_succ, List.getElem?_cons_zero] at c3
  have H := Lib.hid (And.intro h1 (Mod.into' (Mod.refl (b :: blk nv) w) h2 (fun k hk => .inr (by simp at hk; simp [hk]))))
  unfold RPost
  clear h h1 h2
  go_enter Tryz.func65, Tryz.ntmps65
  go_wp2_with fail
  refine bodyPost_ret (results_none rfl _ _ _) rfl ?_
  exact ⟨rfl, H.out⟩
set_option maxHeartbeats 1000000 in
theorem above_on {w : World} {b pb : Nat} {nv fv : Value} {ns : List Nd} {fr : List Int} {root many : Int} (h : TreeAt w b nv fv ns fr root many) {ps : List (Nat × Bool)} (P : PathAt w pb ps) {k : Nat} {q : Nat × Bool} (hq : ps[k]? = some q) {n : Nd} (hp : ns[q.1]? = some n) (below : Int) :
    Calls Tryz.prog 65 #[.pointer (some ⟨b, 0, none⟩), .pointer (some ⟨pb, 0, none⟩), .int .i64 ((k : Int) + 1), .int .i64 below] w (RPost w b nv fv (hangN ns q.1 q.2 below) fr root many (.tuple #[])) := by
  obtain ⟨c1, c2⟩ := P.at_ hq
  have hk : k < 40 := by have := (List.getElem?_eq_some_iff.1 hq).1; have := P.len; omega
  have hk0 : ¬ (k : Int) + 1 = 0 := by omega
  have H := Lib.hid (hang_at (h.kept0 ((Mod.refl [] w).drew)) hp q.2 below)
  unfold RPost
  clear h P
  obtain ⟨qp, qd⟩ := q
  dsimp only at c1 c2 H ⊢
  go_enter Tryz.func65, Tryz.ntmps65
  go_wp2_with fail
  refine wp_plan [([0, 1, 2, 8, 9, 15, 3, 4, 10, 11, 5, 12, 6, 13, 7, 14], 16, [])] [] (by kernel_rfl) (by kernel_rfl) ?_
  simp only [wpSegs, opsOf, List.map_cons, List.map_nil, opN, List.getD_cons_zero, List.getD_cons_succ]
  go_wp2_with fail
  refine ⟨by first | trivial | rfl, ?_⟩
  go_wp2_with fail
  refine H.out.mono ?_
  rintro e w1 ⟨rfl, T1, m1⟩
  have HT := Lib.hid T1
  have HM := Lib.hid (Mod.into' (Mod.refl (b :: blk nv) w) (((Mod.refl (blk nv) w).drew).trans m1) (fun k hk => .inr (by simp [hk])))
  clear T1 m1 H
  go_wp2_with fail
  refine ⟨again_nil, ?_⟩
  go_wp2_with fail
  refine ⟨by first | trivial | rfl, ?_⟩
  go_wp2_with fail
  go_end0
  exact ⟨rfl, HT.out, HM.out⟩
end Go.Proofs.YtngglpekdjhbdaaGreat
namespace Go.Proofs.YtngglpekdjhbdaaGreat
open Go.RowKit Go.ChangeMaps Go.Deep Tr
set_option linter.unusedSimpArgs false
set_option linter.unusedVariables false
set_option maxRecDepth 20000

theorem suffix_get {fs : List Fr} {f : Fr} {fs2 : List Fr} (h : (f :: fs2) <:+ fs) : (pth fs).reverse[fs2.length]? = some (f.p, f.d) := by
  obtain ⟨pre, rfl⟩ := h
  simp only [pth, List.map_append, List.map_cons, List.reverse_append, List.reverse_cons, List.append_assoc]
  rw [List.getElem?_append_right (by simp)]
  simp
/-- where balancing along a way stands -/
structure MSt (b : Nat) (nv fv : Value) (fr : List Int) (many : Int) (w0 : World) (ns0 : List Nd) (T0 : Tr) (fs0 : List Fr) (W : World) (ns : List Nd) (root : Int) (T : Tr) (fs : List Fr) : Prop where
  tree : TreeAt W b nv fv (hangTop ns root (pth fs) T.at_).1 fr (hangTop ns root (pth fs) T.at_).2 many
  rep : T.rep ns
  rest : RestOk ns fs
  nodup : (T.places ++ fs.flatMap Fr.places).Nodup
  suf : fs <:+ fs0
  plug : plugM T fs = plugM T0 fs0
  len : ns.length = ns0.length
  places : ∀ i, i ∈ T.places ++ fs.flatMap Fr.places → i ∈ T0.places ++ fs0.flatMap Fr.places
  other : ∀ i, i ∉ T0.places ++ fs0.flatMap Fr.places → ns[i]? = ns0[i]?
  hT : T.ht + fs.length ≤ 740
  mod : Mod (b :: blk nv) w0 W
theorem MSt.next {b : Nat} {nv fv : Value} {fr : List Int} {many : Int} {w0 : World} {ns0 : List Nd} {T0 : Tr} {fs0 : List Fr} {W W2 : World} {ns : List Nd} {root : Int} {T : Tr} {f : Fr} {fs : List Fr} (h : MSt b nv fv fr many w0 ns0 T0 fs0 W ns root T (f :: fs)) {N : List Nd} {T' : Tr} {n2 : List Nd} (s : MStep ns T f fs N T' n2) (ho : f.o.ht ≤ 700) (hl : fs0.length ≤ 39)
    (ht2 : TreeAt W2 b nv fv (hangTop n2 root (pth fs) T'.at_).1 fr (hangTop n2 root (pth fs) T'.at_).2 many) (hm : Mod (b :: blk nv) w0 W2) : MSt b nv fv fr many w0 ns0 T0 fs0 W2 n2 root T' fs := by
  have hsl := h.suf.length_le
  simp only [List.length_cons] at hsl
  have hT := h.hT
  simp only [List.length_cons] at hT
  have hpl : ∀ i, i ∈ T'.places ++ fs.flatMap Fr.places → i ∈ T.places ++ (f :: fs).flatMap Fr.places := fun i hi => by
    simp only [List.mem_append, List.flatMap_cons, Fr.places, List.mem_cons] at hi ⊢
    rcases hi with hi | hi
    · rcases (s.mem i).1 hi with e | e | e
      · exact .inr (.inl (.inl e))
      · exact .inr (.inl (.inr e))
      · exact .inl e
    · exact .inr (.inr hi)
  refine ⟨ht2, s.rep, s.rest, s.nodup, (List.suffix_cons f fs).trans h.suf, ?_, by rw [s.len, h.len], fun i hi => h.places i (hpl i hi), fun i hi => ?_, ?_, hm⟩
  · rw [← h.plug, plugM, s.tree]
  · rw [s.other i (fun e => hi (h.places i e)), h.other i hi]
  · have e : T'.ht ≤ 1 + max T.ht f.o.ht := by
      rw [s.tree]
      split
      · have := mend_ht f.p f.o f.x T; omega
      · have := mend_ht f.p T f.x f.o; omega
    omega
set_option maxHeartbeats 4000000 in
theorem mend_at {w : World} {b pb : Nat} {nv fv : Value} {fr : List Int} {root many : Int} {ns : List Nd} {T : Tr} {fs : List Fr} (h0 : TreeAt w b nv fv (hangTop ns root (pth fs) T.at_).1 fr (hangTop ns root (pth fs) T.at_).2 many) (P : PathAt w pb (pth fs).reverse) (hpb : pb ≠ b) (hpn : nv.ownBlock ≠ some pb)
    (hT : rep ns T) (hR : RestOk ns fs) (hn : (T.places ++ fs.flatMap Fr.places).Nodup) (bT : T.ht ≤ 700) (bf : ∀ f ∈ fs, f.o.ht ≤ 700) (bl : fs.length ≤ 39) :
    Calls Tryz.prog 66 #[.pointer (some ⟨b, 0, none⟩), .pointer (some ⟨pb, 0, none⟩)] w fun e w' => e = .returned (.tuple #[]) ∧ ∃ ns', TreeAt w' b nv fv ns' fr (plugM T fs).at_ many ∧ (plugM T fs).rep ns' ∧ ns'.length = ns.length ∧ (∀ i, i ∉ T.places ++ fs.flatMap Fr.places → ns'[i]? = ns[i]?) ∧ Mod (b :: blk nv) w w' := by
  have S0 := Lib.hid (show MSt b nv fv fr many w ns T fs w ns root T fs from ⟨h0, hT, hR, hn, List.suffix_refl _, rfl, rfl, fun _ h => h, fun _ _ => rfl, by omega, Mod.refl _ _⟩)
  have HP := Lib.hid P
  have HBF := Lib.hid bf
  have hpm : pb ∉ b :: blk nv := by
    simp only [List.mem_cons, not_or]
    exact ⟨hpb, fun e => hpn (mem_blk.1 e)⟩
  have c80 := P.n
  simp only [List.length_reverse, pth, List.length_map] at c80
  clear h0 P hT hR hn bf
  go_enter Tryz.func66, Tryz.ntmps66
  go_wp2_with fail
  go_loopw [4] (fun s4 W => ∃ (fs' : List Fr) (T' : Tr) (ns' : List Nd) (root' : Int), s4 = .int .i64 ((fs'.length : Int) - 1) ∧ Hid (MSt b nv fv fr many w ns T fs W ns' root' T' fs')) (fun s4 _ => (intOf s4 + 1).toNat)
  case atStart => exact ⟨fs, T, ns, root, rfl, S0⟩
  case round =>
    obtain ⟨fs', T', ns', root', rfl, hS⟩ := hrel
    cases fs' with
    | nil =>
      have HE := Lib.hid (show ∃ ns', TreeAt wr b nv fv ns' fr (plugM T fs).at_ many ∧ (plugM T fs).rep ns' ∧ ns'.length = ns.length ∧ (∀ i, i ∉ T.places ++ fs.flatMap Fr.places → ns'[i]? = ns[i]?) ∧ Mod (b :: blk nv) w wr from by
        have h := hS.out
        have hp := h.plug
        simp only [plugM] at hp
        refine ⟨ns', ?_, ?_, h.len, h.other, h.mod⟩
        · rw [← hp]; exact h.tree
        · rw [← hp]; exact h.rep)
      clear S0 hS
      simp only [List.length_nil]
      go_wp2_with fail
      go_end0
      exact ⟨rfl, HE.out⟩
    | cons f fs2 =>
      obtain ⟨N, T2, n2, hs⟩ := mend_step f fs2 ns' T' hS.out.rep hS.out.rest hS.out.nodup
      have HS := Lib.hid hs
      obtain ⟨l, r, hh, t, q1, q2, q3, q4, q5⟩ := hs.call
      have hof := HBF.out f (hS.out.suf.subset (by simp))
      have hTh := hS.out.hT
      have hTR : TreeAt wr b nv fv N fr root' many := by
        have := hS.out.tree
        simp only [hangTop, pth, List.map_cons] at this
        rw [hs.hang] at this
        exact this
      have C1 := Lib.hid (mended_at hTR q1 q2 q3 q4 (by rcases q5 with ⟨rfl, rfl⟩ | ⟨rfl, rfl⟩ <;> omega) (by rcases q5 with ⟨rfl, rfl⟩ | ⟨rfl, rfl⟩ <;> omega))
      rw [hs.mended] at C1
      unfold TPost at C1
      dsimp only at C1
      have hP := HP.out.kept hS.out.mod hpm
      obtain ⟨c1, c2⟩ := hP.at_ (suffix_get hS.out.suf)
      have hl40 : fs2.length < 40 := by have := hS.out.suf.length_le; simp only [List.length_cons] at this; omega
      dsimp only at c1
      have HPW := Lib.hid hP
      simp only [List.length_cons]
      rw [show (((fs2.length + 1 : Nat) : Int) - 1) = (fs2.length : Int) by omega]
      clear hs q1 q2 q3 q4 q5 hTR hP c2 S0 c80
      go_wp2_with fail
      refine C1.out.mono ?_
      rintro e w1 ⟨rfl, T1, m1⟩
      have M1 := Lib.hid (hS.out.mod.trans (Mod.into' (Mod.refl (b :: blk nv) wr) m1 (fun k hk => .inr (by simp [hk]))))
      cases fs2 with
      | nil =>
        have C2 := Lib.hid (above_first (pb := pb) T1 T2.at_)
        unfold RPost at C2
        clear T1 m1
        go_wp2_with fail
        refine C2.out.mono ?_
        rintro e w2 ⟨rfl, T3, m2⟩
        have SN := Lib.hid (hS.out.next HS.out hof bl T3 (M1.out.trans m2))
        clear T3 m2
        go_wp2_with fail
        go_roundw
        case rel => exact ⟨[], T2, n2, root', by simp, SN⟩
        case measure => simp [intOf]
      | cons g fs3 =>
        obtain ⟨⟨lk, hh2, t2, hg⟩, _⟩ := HS.out.rest g (by simp)
        have hl3 : fs3.length < 39 := by simp only [List.length_cons] at hl40; omega
        have C2 := Lib.hid (above_on T1 (HPW.out.kept m1 (fun e => hpm (by simp [e]))) (suffix_get ((List.suffix_cons f (g :: fs3)).trans hS.out.suf)) hg T2.at_)
        unfold RPost at C2
        clear T1 m1 hg
        dsimp only at C2
        simp only [List.length_cons]
        go_wp2_with fail
        refine C2.out.mono ?_
        rintro e w2 ⟨rfl, T3, m2⟩
        have SN := Lib.hid (hS.out.next HS.out hof bl T3 (M1.out.trans m2))
        clear T3 m2
        go_wp2_with fail
        go_roundw
        case rel => exact ⟨g :: fs3, T2, n2, root', by simp only [List.length_cons]; congr 1; omega, SN⟩
        case measure => simp only [intOf, List.length_cons]; omega
end Go.Proofs.YtngglpekdjhbdaaGreat

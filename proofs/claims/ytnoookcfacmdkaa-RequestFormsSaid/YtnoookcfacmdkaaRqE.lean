/- Bytes copied behind an empty slice of the call's own, and cells that hold bytes. -/
import Derived.Test.YtnoookcfacmdkaaRqA
import Derived.Test.YtnoookcfacmdkaaReqE
import Derived.Test.YtnoookcfacmdkaaReqI
import Derived.Test.YtnoookcfacmdkaaReqF
import Derived.Test.YtnoookcfacmdkaaRqD
import Derived.Test.YtnoookcfacmdkaaReqV
import Derived.Test.YtnoookcfacmdkaaDiskD
import Derived.Test.YtnoookcfacmdkaaOwn
namespace Go.Proofs.Ytnoookcfacmdkaa
open Go.RowKit Go.ChangeMaps Go.Deep
set_option linter.unusedSimpArgs false
set_option linter.unusedVariables false
set_option maxRecDepth 20000

theorem numB3 {n : Int} : numB n 3 = [n / 65536 % 256, n / 256 % 256, n % 256] := by
  simp [numB]
set_option maxHeartbeats 1000000 in
theorem refThree_any (n : Int) (h0 : 0 ≤ n) (h1 : n < 16777216) (w : World) :
    Calls Try.prog 54 #[.int .i64 n] w fun e w' => ∃ v, e = .returned v ∧ OwnB w' w.heap.size v (numB n 3) ∧ Mod [] w w' := by
  have a0 : 0 ≤ n / 65536 := by omega
  have a1 : n / 65536 ≤ 255 := by omega
  have b0 : 0 ≤ n / 256 % 256 := by omega
  have b1 : n / 256 % 256 ≤ 255 := by omega
  have c0 : 0 ≤ n % 256 := by omega
  have c1 : n % 256 ≤ 255 := by omega
  have HO := Lib.hid (show OwnB (w.alloc (.cells #[.int .u8 (n / 65536), .int .u8 (n / 256 % 256), .int .u8 (n % 256)] 5)) w.heap.size (.slice (some ⟨w.heap.size, 0, none⟩) 3 3) (numB n 3) from by
    rw [numB3, Int.emod_eq_of_lt a0 (by omega)]
    exact ⟨by simp [bv], .inr ⟨w.heap.size, 3, _, rfl, Nat.le_refl _, heap_alloc_new w _, by simp, by unfold maxLen; omega, by simp, by simp [bv]⟩⟩)
  go_enter Try.func54, Try.ntmps54
  go_wp2_with fail
  go_ret
  exact ⟨_, rfl, HO.out, (Mod.refl [] w).alloc _⟩
/-- the byte at a place, 0 beyond the end -/
def atL (l : List Int) (i : Int) : Int := if 0 ≤ i then l.getD i.toNat 0 else 0
theorem atL_nat (l : List Int) (i : Nat) : atL l i = l.getD i 0 := by simp [atL]
theorem atL_byt {l : List Int} (h : Byt l) (i : Int) : 0 ≤ atL l i ∧ atL l i < 256 := by
  unfold atL
  split
  · by_cases hi : i.toNat < l.length
    · simp [List.getD, hi]
      exact h _ (List.getElem_mem hi)
    · simp [List.getD, hi]
  · omega
set_option maxHeartbeats 1000000 in
theorem refAt_any (v : Value) (l : List Int) (i : Int) (w : World) (h : BytesAt w v l) (hB : Byt l) (hl : l.length ≤ 140737488355328) :
    Calls Try.prog 42 #[v, .int .i64 i] w fun e w' => e = .returned (.int .i64 (atL l i)) ∧ w' = w := by
  have H := Lib.hid h
  obtain ⟨a, c, rfl⟩ := h.form
  clear h
  by_cases h0 : 0 ≤ i
  · obtain ⟨k, rfl⟩ := Int.eq_ofNat_of_zero_le h0
    by_cases hk : k < l.length
    · have HE := Lib.hid (show atL l k = l[k] by rw [atL_nat]; simp [List.getD, hk])
      obtain ⟨b, o, rfl, q⟩ : ∃ b o, a = some ⟨b, o, none⟩ ∧ w.cell? ⟨b, o + k, none⟩ = some (.int .u8 l[k]) := by
        have hh := H.out
        generalize hv : Value.slice a l.length c = v at hh
        cases hh with
        | nil a cap => simp at hk
        | at_ b o cap _ hr =>
          simp only [Value.slice.injEq, true_and] at hv
          obtain ⟨rfl, rfl⟩ := hv
          exact ⟨b, o, rfl, hr k _ (by simp [bv, hk])⟩
      have hx := hB _ (List.getElem_mem hk)
      generalize l[k] = x at HE q hx
      clear h0
      go_enter Try.func42, Try.ntmps42
      go_wp2_with fail
      go_ret
      exact ⟨by rw [HE.out]; rfl, rfl⟩
    · have HE := Lib.hid (show atL l k = 0 by rw [atL_nat]; simp [List.getD, hk])
      clear h0
      go_enter Try.func42, Try.ntmps42
      go_wp2_with fail
      go_ret
      exact ⟨by rw [HE.out]; rfl, rfl⟩
  · have HE := Lib.hid (show atL l i = 0 by unfold atL; rw [if_neg h0])
    go_enter Try.func42, Try.ntmps42
    go_wp2_with fail
    go_ret
    exact ⟨by rw [HE.out]; rfl, rfl⟩
def spanA (l : List Int) (i : Int) : Int := atL l i * 65536 + atL l (i + 1) * 256 + atL l (i + 2)
theorem spanA_range {l : List Int} (h : Byt l) (i : Int) : 0 ≤ spanA l i ∧ spanA l i < 16777216 := by
  unfold spanA
  have h0 := atL_byt h i
  have h1 := atL_byt h (i + 1)
  have h2 := atL_byt h (i + 2)
  omega
set_option maxHeartbeats 2000000 in
theorem refSpan_any (v : Value) (l : List Int) (i : Int) (w : World) (h : BytesAt w v l) (hB : Byt l) (hl : l.length ≤ 140737488355328) (hi0 : 0 ≤ i) (hi1 : i ≤ 140737488355328000) :
    Calls Try.prog 44 #[v, .int .i64 i] w fun e w' => e = .returned (.agg #[.int .i64 (spanA l i), .int .i64 (spanA l (i + 3))]) ∧ Mod [] w w' := by
  obtain ⟨A1, hA1, k1, z1, m1⟩ := alloc_named2 w (.cells #[.int .i64 0, .int .i64 0] 52)
  have HC := Lib.hid (fun j => refAt_any v l j A1 (h.kept0 m1) hB hl)
  have HM := Lib.hid m1
  have p0 := cell_blk k1 0
  have p1 := cell_blk k1 1
  have f0 := frozen_blk k1 0
  have f1 := frozen_blk k1 1
  simp only [List.getElem?_toArray, List.getElem?_cons_succ, List.getElem?_cons_zero] at p0 p1
  have b0 := atL_byt hB i
  have b1 := atL_byt hB (i + 1)
  have b2 := atL_byt hB (i + 2)
  have b3 := atL_byt hB (i + 3)
  have b4 := atL_byt hB (i + 4)
  have b5 := atL_byt hB (i + 5)
  have HS1 := Lib.hid (show atL l i * 65536 + atL l (i + 1) * 256 + atL l (i + 2) = spanA l i from rfl)
  have HS2 := Lib.hid (show atL l (i + 3) * 65536 + atL l (i + 4) * 256 + atL l (i + 5) = spanA l (i + 3) by unfold spanA; rw [show i + 3 + 1 = i + 4 by omega, show i + 3 + 2 = i + 5 by omega])
  have c0 := Lib.hid (HC.out i)
  have c1 := Lib.hid (HC.out (i + 1))
  have c2 := Lib.hid (HC.out (i + 2))
  have c3 := Lib.hid (HC.out (i + 3))
  have c4 := Lib.hid (HC.out (i + 4))
  have c5 := Lib.hid (HC.out (i + 5))
  obtain ⟨a, c, rfl⟩ := h.form
  generalize atL l i = x0 at *
  generalize atL l (i + 1) = x1 at *
  generalize atL l (i + 2) = x2 at *
  generalize atL l (i + 3) = x3 at *
  generalize atL l (i + 4) = x4 at *
  generalize atL l (i + 5) = x5 at *
  clear h hB HC k1 m1 hl
  go_enter Try.func44, Try.ntmps44
  go_wp2_with fail
  refine c0.out.mono ?_
  rintro e A1 ⟨rfl, rfl⟩
  go_wp2_with fail
  refine c1.out.mono ?_
  rintro e A1 ⟨rfl, rfl⟩
  go_wp2_with fail
  refine c2.out.mono ?_
  rintro e A1 ⟨rfl, rfl⟩
  go_wp2_with fail
  refine c3.out.mono ?_
  rintro e A1 ⟨rfl, rfl⟩
  go_wp2_with fail
  refine c4.out.mono ?_
  rintro e A1 ⟨rfl, rfl⟩
  go_wp2_with fail
  refine c5.out.mono ?_
  rintro e A1 ⟨rfl, rfl⟩
  go_wp2_with fail
  refine bodyPost_ret (v := .agg #[.int .i64 (x0 * 65536 + x1 * 256 + x2), .int .i64 (x3 * 65536 + x4 * 256 + x5)]) (by simp [results, Try.results44, go_sem, p0, p1]) rfl ⟨by rw [HS1.out, HS2.out], HM.out.res2 (Nat.le_refl _) _ _⟩
end Go.Proofs.Ytnoookcfacmdkaa
namespace Go.Proofs.Ytnoookcfacmdkaa
open Go.RowKit Go.ChangeMaps Go.Deep
set_option linter.unusedSimpArgs false
set_option linter.unusedVariables false
set_option maxRecDepth 20000

set_option maxHeartbeats 2000000 in
theorem refPart_any (a : Option Addr) (c : Nat) (l : List Int) (i n : Nat) (w : World) (h : BytesAt w (.slice a l.length c) l) (hcap : l.length ≤ c) (hB : Byt l) (hl : l.length ≤ 140737488355328) (hi : i ≤ 140737488355328000) (hn : n ≤ 140737488355328) :
    Calls Try.prog 60 #[.slice a l.length c, .int .i64 i, .int .i64 n] w fun e w' => e = .returned (.string (strOfNums ((l.drop i).take n))) ∧ w' = w := by
  have H := Lib.hid h
  have HB := Lib.hid hB
  clear h hB
  go_enter Try.func60, Try.ntmps60
  go_wp2_with fail
  go_loop [7, 8] (fun s7 s8 => ∃ k : Nat, k ≤ n ∧ s8 = .int .i64 ((i : Int) + k) ∧ s7 = .string (strOfNums ((l.drop i).take k))) (fun _ s8 => i + n - (intOf s8).toNat)
  case atStart => exact ⟨0, by omega, by simp, by simp [strOfNums]⟩
  case round =>
    obtain ⟨k, hk, rfl, rfl⟩ := hrel
    by_cases hlt : k < n
    · by_cases hin : i + k < l.length
      · obtain ⟨b, o, rfl, hr⟩ : ∃ b o, a = some ⟨b, o, none⟩ ∧ w.rangeAt b (o + (i + k)) (bv [l[i + k]]) := by
          have hh := H.out
          generalize hv : Value.slice a l.length c = v at hh
          cases hh with
          | nil a cap => simp at hin
          | at_ b o cap _ hr =>
            simp only [Value.slice.injEq, true_and] at hv
            obtain ⟨rfl, rfl⟩ := hv
            refine ⟨b, o, rfl, fun j u hj => ?_⟩
            match j with
            | 0 =>
              have := hr (i + k) (.int .u8 l[i + k]) (by simp [bv, hin])
              simp [bv] at hj
              rw [← hj]
              exact this
            | j + 1 => simp [bv] at hj
        have HCV := Lib.hid (show (convert 23 9 (.slice (some ⟨b, o + (i + k), none⟩) 1 (c - (i + k)))).run Try.prog w = .ok (.string (strOfNums [l[i + k]])) w from conv_bytes (BytesAt.at_ b (o + (i + k)) (c - (i + k)) [l[i + k]] hr))
        have HT := Lib.hid (show strOfNums ((l.drop i).take k) ++ strOfNums [l[i + k]] = strOfNums ((l.drop i).take (k + 1)) by
          rw [List.take_succ_eq_append_getElem (by rw [List.length_drop]; omega), List.getElem_drop]
          apply ByteArray.ext
          simp [strOfNums])
        generalize l[i + k] = x at HCV HT hr
        have hne : ¬ c = i + k := by omega
        have hsz : ¬ 9223372036854775807 < (strOfNums ((l.drop i).take k)).size + (strOfNums [x]).size := by
          rw [str_size, str_size, List.length_take, List.length_drop]
          simp
          omega
        have hcv := HCV.out
        clear hr
        go_wp2_with ((with_reducible refine xConvertAt rfl HCV.out ?_ ?_ ?_); exact rfl; exact rfl)
        refine ⟨⟨k + 1, by omega, by go_num, by rw [HT.out]⟩, ?_⟩
        simp [intOf]
        omega
      · have HE := Lib.hid (show (l.drop i).take k = (l.drop i).take n by rw [List.take_of_length_le (by rw [List.length_drop]; omega), List.take_of_length_le (by rw [List.length_drop]; omega)])
        go_wp2_with fail
        go_ret
        exact ⟨by rw [HE.out]; rfl, rfl⟩
    · obtain rfl : k = n := by omega
      go_wp2_with fail
      go_ret
      exact ⟨rfl, rfl⟩
end Go.Proofs.Ytnoookcfacmdkaa
namespace Go.Proofs.Ytnoookcfacmdkaa
open Go.RowKit Go.ChangeMaps Go.Deep
set_option linter.unusedSimpArgs false
set_option linter.unusedVariables false
set_option maxRecDepth 20000

theorem OwnB.mono' {w : World} {base base' : Nat} {v : Value} {l : List Int} (h : OwnB w base v l) (hb : base' ≤ base) : OwnB w base' v l := by
  obtain ⟨h1, h2⟩ := h
  refine ⟨h1, h2.imp id ?_⟩
  rintro ⟨g, cap, cur, rfl, hb', rest⟩
  exact ⟨g, cap, cur, rfl, Nat.le_trans hb hb', rest⟩
/-- while bytes are laid: the box of what is told, the bytes -/
structure BAt (w W : World) (o : Obj) (v : Value) (l : List Int) : Prop where
  mod : Mod [] w W
  box : W.heap[w.heap.size]? = some o
  own : OwnB W (w.heap.size + 1) v l
section
variable {w W W2 : World} {o : Obj} {v : Value} {l : List Int}
theorem BAt.new (w : World) (o : Obj) (x : Int) : BAt w ((w.alloc o).alloc (.cells #[.int .u8 x] 5)) o (.slice (some ⟨w.heap.size + 1, 0, none⟩) 1 1) [x] := by
  have h := OwnB.new (w.alloc o) (w.heap.size + 1) (by simp) x
  rw [show (w.alloc o).heap.size = w.heap.size + 1 by simp] at h
  exact ⟨((Mod.refl [] w).alloc o).alloc _, ((Mod.refl [] (w.alloc o)).alloc _).heap (heap_alloc_new w o) (by simp), h⟩
theorem BAt.start (w : World) (o : Obj) (x : Int) : ∃ A1 W0, w.alloc o = A1 ∧ A1.heap.size = w.heap.size + 1 ∧ A1.alloc (.cells #[.int .u8 x] 5) = W0 ∧ A1.heap[w.heap.size]? = some o ∧ BAt w W0 o (.slice (some ⟨w.heap.size + 1, 0, none⟩) 1 1) [x] :=
  ⟨_, _, rfl, by simp, rfl, heap_alloc_new w o, BAt.new w o x⟩
theorem BAt.kept0 (h : BAt w W o v l) (hm : Mod [] W W2) : BAt w W2 o v l := ⟨h.mod.trans hm, hm.heap h.box (by simp), h.own.kept0 hm⟩
theorem BAt.grow (h : BAt w W o v l) {v' : Value} {l' : List Int} (ho : OwnB W2 (w.heap.size + 1) v' l') (hg : Grew W v W2 v') : BAt w W2 o v' l' := by
  refine ⟨hg.intoNil h.own (by omega) h.mod, hg.mod.heap h.box fun hm => ?_, ho⟩
  have := (World.ownsRow.lt h.own _ (mem_blk.1 hm)).1
  omega
theorem BAt.size (h : BAt w W o v l) : w.heap.size + 1 ≤ W.heap.size := lt_of_heap h.box
theorem BAt.one (h : BAt w W o v l) (x : Int) (hl : l.length ≤ 1073741824) : ∃ a c W', (Builtin.append_ #[23, 23] 23 #[v, .slice (some ⟨W.heap.size, 0, none⟩) 1 1]).run Try.prog (W.alloc (.cells #[.int .u8 x] 5)) = .ok (.slice a (l.length + 1) c) W' ∧ BAt w W' o (.slice a (l.length + 1) c) (l ++ [x]) := by
  obtain ⟨v', W', h1, h2, h3⟩ := app_one h.own h.size x (by omega)
  obtain ⟨a, c, e⟩ := h2.form
  rw [List.length_append, List.length_singleton] at e
  subst e
  exact ⟨a, c, W', h1, h.grow h2 h3⟩
theorem BAt.str (h : BAt w W o v l) (s : ByteArray) (hl : l.length ≤ 1073741824) (hs : s.size ≤ 1073741824) : ∃ a c W', (Builtin.append_ #[23, 9] 23 #[v, .string s]).run Try.prog W = .ok (.slice a (l.length + s.size) c) W' ∧ BAt w W' o (.slice a (l.length + s.size) c) (l ++ numsOf s) := by
  obtain ⟨v', W', h1, h2, h3⟩ := app_str h.own h.size s (by omega)
  obtain ⟨a, c, e⟩ := h2.form
  rw [List.length_append, numsOf_length] at e
  subst e
  exact ⟨a, c, W', h1, h.grow h2 h3⟩
theorem BAt.bytes (h : BAt w W o v l) {x : Value} {l2 : List Int} (hx : OwnB W (w.heap.size + 1) x l2) (hl : l.length ≤ 1073741824) (hl2 : l2.length ≤ 1073741824) : ∃ a c W', (Builtin.append_ #[23, 23] 23 #[v, x]).run Try.prog W = .ok (.slice a (l.length + l2.length) c) W' ∧ BAt w W' o (.slice a (l.length + l2.length) c) (l ++ l2) := by
  have hs : Src Try.prog 1 23 x l2.length (bv l2) W := by
    rcases hx.2 with ⟨rfl, h0⟩ | ⟨g, cap, cur, rfl, hb, hg, hn, hcm, hcs, htake⟩
    · have : l2 = [] := List.eq_nil_of_length_eq_zero h0
      subst this
      exact Src.ofNil W Try.underlying23 0
    · refine Src.ofSlice (P := Try.prog) W Try.underlying23 ⟨g, 0, none⟩ l2.length cap (bv l2) (by simp [bv]) (fun j u hu => ?_) (by intro u hu; simp [bv] at hu; obtain ⟨a, _, rfl⟩ := hu; rfl)
      rw [Addr.add_mid, Nat.zero_add, cell_blk hg]
      rw [← htake, List.getElem?_take] at hu
      split at hu
      · rw [← hu]; simp
      · cases hu
  obtain ⟨v', W', h1, h2, h3⟩ := app_src h.own h.size hs (by omega)
  obtain ⟨a, c, e⟩ := h2.form
  rw [List.length_append] at e
  subst e
  exact ⟨a, c, W', h1, h.grow h2 h3⟩
theorem BAt.two (h : BAt w W o v l) (x y : Int) (hl : l.length ≤ 1073741824) : ∃ a c W', (Builtin.append_ #[23, 23] 23 #[v, .slice (some ⟨W.heap.size, 0, none⟩) 2 2]).run Try.prog (W.alloc (.cells #[.int .u8 x, .int .u8 y] 5)) = .ok (.slice a (l.length + 2) c) W' ∧ BAt w W' o (.slice a (l.length + 2) c) (l ++ [x, y]) := by
  have hm := (Mod.refl [] W).alloc (.cells #[.int .u8 x, .int .u8 y] 5)
  have h2 := h.kept0 hm
  have hx : OwnB (W.alloc (.cells #[.int .u8 x, .int .u8 y] 5)) (w.heap.size + 1) (.slice (some ⟨W.heap.size, 0, none⟩) 2 2) [x, y] :=
    ⟨by simp [bv], .inr ⟨W.heap.size, 2, _, rfl, h.size, heap_alloc_new W _, by simp, by unfold maxLen; omega, by simp, by simp [bv]⟩⟩
  exact h2.bytes hx hl (by simp)
/-- the cells of the operation's box, where bytes are laid -/
theorem BAt.cell {C : Array Value} (h : BAt w W (.cells C 78) v l) (j : Nat) : W.cell? ⟨w.heap.size, j, none⟩ = C[j]? := cell_blk h.box j
end
abbrev doObj (k f : Int) (nm : ByteArray) (fk a b vk c s e : Int) (tx : ByteArray) : Obj := .cells #[.int .u8 k, .int .i64 f, .string nm, .int .u8 fk, .int .i64 a, .int .i64 b, .int .u8 vk, .int .i64 c, .int .i64 s, .int .i64 e, .string tx] 78
set_option maxHeartbeats 4000000 in
theorem rone_1 (f : Int) (nm : ByteArray) (fk a b vk c s e : Int) (tx : ByteArray) (hn : nm.size ≤ 12) (w : World) :
    Calls Try.prog 55 #[.agg (DoR.cells ⟨1, f, nm, fk, a, b, vk, c, s, e, tx⟩).toArray] w fun x w' => ∃ v, x = .returned v ∧ OwnB w' w.heap.size v (DoR.enc ⟨1, f, nm, fk, a, b, vk, c, s, e, tx⟩) ∧ Mod [] w w' := by
  unfold DoR.cells
  dsimp only
  obtain ⟨A1, W0, hA1, z1, hW0, hb, B0⟩ := BAt.start w (doObj 1 f nm fk a b vk c s e tx) 1
  obtain ⟨a1, c1, W1, r1, B1⟩ := B0.one nm.size (by simp)
  obtain ⟨a2, c2, W2, r2, B2⟩ := B1.str nm (by simp) (by omega)
  obtain ⟨a3, c3, W3, r3, B3⟩ := B2.one fk (by simp [numsOf_length]; omega)
  have HE := Lib.hid (show [1] ++ [(nm.size : Int)] ++ numsOf nm ++ [fk] = DoR.enc ⟨1, f, nm, fk, a, b, vk, c, s, e, tx⟩ by
    simp [DoR.enc]
    omega)
  have p0 := cell_blk hb 0
  have p1 := B0.cell 0
  have p2 := B0.cell 2
  have p3 := B1.cell 2
  have p4 := B2.cell 3
  simp only [List.getElem?_toArray, List.getElem?_cons_succ, List.getElem?_cons_zero] at p0 p1 p2 p3 p4
  simp only [List.length_append, List.length_singleton, numsOf_length] at r1 r2 r3 B3
  have R1 := Lib.hid r1
  have R2 := Lib.hid r2
  have R3 := Lib.hid r3
  have HB := Lib.hid B3
  clear B0 B1 B2 B3 r1 r2 r3 hb
  have hn1 : (nm.size : Int) ≤ 255 := by omega
  go_enter Try.func55, Try.ntmps55
  go_wp2_with (first | ((with_reducible refine xAppendAt R1.out rfl rfl ?_ ?_ ?_ ?_); exact rfl; exact rfl; exact rfl) | ((with_reducible refine xAppendAt R2.out rfl rfl ?_ ?_ ?_ ?_); exact rfl; exact rfl; exact rfl) | ((with_reducible refine xAppendAt R3.out rfl rfl ?_ ?_ ?_ ?_); exact rfl; exact rfl; exact rfl))
  go_ret
  refine ⟨_, rfl, ?_, HB.out.mod⟩
  rw [← HE.out]
  have := HB.out.own.mono' (Nat.le_succ _)
  exact this
set_option maxHeartbeats 4000000 in
theorem rone_5 (k f : Int) (nm : ByteArray) (fk a b vk c s e : Int) (tx : ByteArray) (hk : k = 5 ∨ k = 7) (hf0 : 0 ≤ f) (hf1 : f ≤ 255) (w : World) :
    Calls Try.prog 55 #[.agg (DoR.cells ⟨k, f, nm, fk, a, b, vk, c, s, e, tx⟩).toArray] w fun x w' => ∃ v, x = .returned v ∧ OwnB w' w.heap.size v (DoR.enc ⟨k, f, nm, fk, a, b, vk, c, s, e, tx⟩) ∧ Mod [] w w' := by
  unfold DoR.cells
  dsimp only
  obtain ⟨A1, W0, hA1, z1, hW0, hb, B0⟩ := BAt.start w (doObj k f nm fk a b vk c s e tx) k
  obtain ⟨a1, c1, W1, r1, B1⟩ := B0.one f (by simp)
  have HE := Lib.hid (show [k] ++ [f] = DoR.enc ⟨k, f, nm, fk, a, b, vk, c, s, e, tx⟩ by
    rcases hk with rfl | rfl <;> (simp [DoR.enc]; omega))
  have p0 := cell_blk hb 0
  have p1 := B0.cell 0
  have p2 := B0.cell 1
  have p3 := B1.cell 0
  simp only [List.getElem?_toArray, List.getElem?_cons_succ, List.getElem?_cons_zero] at p0 p1 p2 p3
  simp only [List.length_append, List.length_singleton, numsOf_length] at r1 B1
  have R1 := Lib.hid r1
  have HB := Lib.hid B1
  clear B0 B1 r1 hb
  rcases hk with rfl | rfl
  all_goals
    go_enter Try.func55, Try.ntmps55
    go_wp2_with (((with_reducible refine xAppendAt R1.out rfl rfl ?_ ?_ ?_ ?_); exact rfl; exact rfl; exact rfl))
    go_ret
    refine ⟨_, rfl, ?_, HB.out.mod⟩
    rw [← HE.out]
    exact HB.out.own.mono' (Nat.le_succ _)
set_option maxHeartbeats 4000000 in
theorem rone_4 (k f : Int) (nm : ByteArray) (fk a b vk c s e : Int) (tx : ByteArray) (hk : k = 4 ∨ k = 6) (hf0 : 0 ≤ f) (hf1 : f ≤ 255) (ht : tx.size ≤ 400) (w : World) :
    Calls Try.prog 55 #[.agg (DoR.cells ⟨k, f, nm, fk, a, b, vk, c, s, e, tx⟩).toArray] w fun x w' => ∃ v, x = .returned v ∧ OwnB w' w.heap.size v (DoR.enc ⟨k, f, nm, fk, a, b, vk, c, s, e, tx⟩) ∧ Mod [] w w' := by
  unfold DoR.cells
  dsimp only
  obtain ⟨A1, W0, hA1, z1, hW0, hb, B0⟩ := BAt.start w (doObj k f nm fk a b vk c s e tx) k
  obtain ⟨a1, c1, W1, r1, B1⟩ := B0.one f (by simp)
  obtain ⟨a2, c2, W2, r2, B2⟩ := B1.two ((tx.size : Int) / 256) ((tx.size : Int) % 256) (by simp)
  obtain ⟨a3, c3, W3, r3, B3⟩ := B2.str tx (by simp) (by omega)
  have HE := Lib.hid (show [k] ++ [f] ++ [(tx.size : Int) / 256, (tx.size : Int) % 256] ++ numsOf tx = DoR.enc ⟨k, f, nm, fk, a, b, vk, c, s, e, tx⟩ by
    have e1 : numB (tx.size : Int) 2 = [(tx.size : Int) / 256, (tx.size : Int) % 256] := by
      simp [numB]
      omega
    rcases hk with rfl | rfl <;> (simp [DoR.enc, e1]; omega))
  have p0 := cell_blk hb 0
  have p1 := B0.cell 0
  have p2 := B0.cell 1
  have p3 := B1.cell 0
  have p4 := B1.cell 10
  have p5 := B2.cell 10
  simp only [List.getElem?_toArray, List.getElem?_cons_succ, List.getElem?_cons_zero] at p0 p1 p2 p3 p4 p5
  simp only [List.length_append, List.length_singleton, List.length_cons, List.length_nil, numsOf_length] at r1 r2 r3 B3
  have R1 := Lib.hid r1
  have R2 := Lib.hid r2
  have R3 := Lib.hid r3
  have HB := Lib.hid B3
  clear B0 B1 B2 B3 r1 r2 r3 hb
  have t1 : 0 ≤ (tx.size : Int) / 256 := by omega
  have t2 : (tx.size : Int) / 256 ≤ 255 := by omega
  have t3 : 0 ≤ (tx.size : Int) % 256 := by omega
  have t4 : (tx.size : Int) % 256 ≤ 255 := by omega
  rcases hk with rfl | rfl
  all_goals
    go_enter Try.func55, Try.ntmps55
    go_wp2_with (first | ((with_reducible refine xAppendAt R1.out rfl rfl ?_ ?_ ?_ ?_); exact rfl; exact rfl; exact rfl) | ((with_reducible refine xAppendAt R2.out rfl rfl ?_ ?_ ?_ ?_); exact rfl; exact rfl; exact rfl) | ((with_reducible refine xAppendAt R3.out rfl rfl ?_ ?_ ?_ ?_); exact rfl; exact rfl; exact rfl))
    go_ret
    refine ⟨_, rfl, ?_, HB.out.mod⟩
    rw [← HE.out]
    exact HB.out.own.mono' (Nat.le_succ _)
end Go.Proofs.Ytnoookcfacmdkaa
namespace Go.Proofs.Ytnoookcfacmdkaa
open Go.RowKit Go.ChangeMaps Go.Deep
set_option linter.unusedSimpArgs false
set_option linter.unusedVariables false
set_option maxRecDepth 20000

set_option maxHeartbeats 4000000 in
theorem rone_3 (f : Int) (nm : ByteArray) (fk a b vk c s e : Int) (tx : ByteArray) (hf0 : 0 ≤ f) (hf1 : f ≤ 255) (hs : spanOk a b = true) (w : World) :
    Calls Try.prog 55 #[.agg (DoR.cells ⟨3, f, nm, fk, a, b, vk, c, s, e, tx⟩).toArray] w fun x w' => ∃ v, x = .returned v ∧ OwnB w' w.heap.size v (DoR.enc ⟨3, f, nm, fk, a, b, vk, c, s, e, tx⟩) ∧ Mod [] w w' := by
  unfold DoR.cells
  dsimp only
  obtain ⟨s1, s2, s3, s4⟩ := spanOk_iff.1 hs
  obtain ⟨A1, W0, hA1, z1, hW0, hb, B0⟩ := BAt.start w (doObj 3 f nm fk a b vk c s e tx) 3
  obtain ⟨a1, c1, W1, r1, B1⟩ := B0.one f (by simp)
  have HE := Lib.hid (show [3] ++ [f] ++ numB a 3 ++ numB b 3 = DoR.enc ⟨3, f, nm, fk, a, b, vk, c, s, e, tx⟩ by
    simp [DoR.enc, ends]
    omega)
  have p0 := cell_blk hb 0
  have p1 := B0.cell 0
  have p2 := B0.cell 1
  have p3 := B1.cell 0
  have p4 := B1.cell 4
  have p5 := B1.cell 5
  simp only [List.getElem?_toArray, List.getElem?_cons_succ, List.getElem?_cons_zero] at p0 p1 p2 p3 p4 p5
  simp only [List.length_append, List.length_singleton, numsOf_length] at r1 B1
  have R1 := Lib.hid r1
  have HB1 := Lib.hid B1
  have HC1 := Lib.hid (refThree_any a s1 s2 W1.drew)
  have HC2 := Lib.hid (fun w => refThree_any b s3 s4 w)
  clear B0 B1 r1 hb hs s1 s2 s3 s4
  go_enter Try.func55, Try.ntmps55
  go_wp2_with (((with_reducible refine xAppendAt R1.out rfl rfl ?_ ?_ ?_ ?_); exact rfl; exact rfl; exact rfl))
  refine wp_plan [([0, 1, 6, 2, 7, 3, 8], 4, [6, 7, 8]), ([], 5, [6, 7, 8]), ([], 9, []), ([], 10, []), ([], 11, [])] [] (by kernel_rfl) (by kernel_rfl) ?_
  simp only [wpSegs, opsOf, List.map_cons, List.map_nil, opN, List.getD_cons_zero, List.getD_cons_succ]
  go_wp2_with fail
  refine ⟨by first | trivial | rfl, ?_⟩
  go_wp2_with fail
  refine HC1.out.mono ?_
  rintro x W2 ⟨v2, rfl, o2, m2⟩
  have B2 := HB1.out.kept0 ((Mod.refl [] W1).drew.trans m2)
  obtain ⟨a3, c3, W3, r3, B3⟩ := B2.bytes (o2.mono' (by have := HB1.out.size; simpa using this)) (by simp) (by simp [numB_length])
  have q4 := B2.cell 4
  have q5 := B2.cell 5
  have u4 := B3.cell 4
  have u5 := B3.cell 5
  simp only [List.getElem?_toArray, List.getElem?_cons_succ, List.getElem?_cons_zero] at q4 q5 u4 u5
  simp only [numB_length, List.length_append, List.length_singleton] at r3 B3
  obtain ⟨va, vc, rfl⟩ := o2.form
  have R3 := Lib.hid r3
  have HB3 := Lib.hid B3
  clear B2 B3 r3 o2 m2 HC1
  go_wp2_with fail
  refine ⟨?ag1, ?_⟩
  case ag1 =>
    intro i hi hw
    simp only [List.mem_cons, List.not_mem_nil, or_false] at hi
    rcases hi with rfl | rfl | rfl
    all_goals (simp only [opN, List.getD_cons_zero, List.getD_cons_succ, slotOf]; go_simp)
  go_wp2_with fail
  refine ⟨by first | trivial | rfl, ?_⟩
  go_wp2_with (((with_reducible refine xAppendAt R3.out rfl rfl ?_ ?_ ?_ ?_); exact rfl; exact rfl; exact rfl))
  refine ⟨?ag2, ?_⟩
  case ag2 =>
    intro i hi hw
    simp only [List.mem_cons, List.not_mem_nil, or_false] at hi
    rcases hi with rfl | rfl | rfl
    all_goals (simp only [opN, List.getD_cons_zero, List.getD_cons_succ, slotOf]; go_simp)
  go_wp2_with fail
  refine ⟨by first | trivial | rfl, ?_⟩
  go_wp2_with fail
  refine (HC2.out W3).mono ?_
  rintro x W4 ⟨v4, rfl, o4, m4⟩
  have B4 := HB3.out.kept0 m4
  obtain ⟨a5, c5, W5, r5, B5⟩ := B4.bytes (o4.mono' HB3.out.size) (by simp [numB_length]) (by simp [numB_length])
  have t0 := B5.cell 0
  simp only [List.getElem?_toArray, List.getElem?_cons_succ, List.getElem?_cons_zero] at t0
  simp only [numB_length, List.length_append, List.length_singleton] at r5 B5
  obtain ⟨va4, vc4, rfl⟩ := o4.form
  have R5 := Lib.hid r5
  have HB5 := Lib.hid B5
  clear B4 B5 r5 o4 m4 HC2
  go_wp2_with fail
  refine ⟨again_nil, ?_⟩
  go_wp2_with fail
  refine ⟨by first | trivial | rfl, ?_⟩
  go_wp2_with (((with_reducible refine xAppendAt R5.out rfl rfl ?_ ?_ ?_ ?_); exact rfl; exact rfl; exact rfl))
  refine ⟨again_nil, ?_⟩
  go_wp2_with fail
  refine ⟨by first | trivial | rfl, ?_⟩
  go_wp2_with fail
  refine ⟨again_nil, ?_⟩
  go_wp2_with fail
  refine ⟨by first | trivial | rfl, ?_⟩
  go_wp2_with fail
  go_ret
  refine ⟨_, rfl, ?_, HB5.out.mod⟩
  rw [← HE.out]
  exact HB5.out.own.mono' (Nat.le_succ _)
end Go.Proofs.Ytnoookcfacmdkaa
namespace Go.Proofs.Ytnoookcfacmdkaa
open Go.RowKit Go.ChangeMaps Go.Deep
set_option linter.unusedSimpArgs false
set_option linter.unusedVariables false
set_option maxRecDepth 20000

set_option maxHeartbeats 8000000 in
theorem rone_2 (f : Int) (nm : ByteArray) (fk a b vk c s e : Int) (tx : ByteArray) (hf0 : 0 ≤ f) (hf1 : f ≤ 255) (hs : spanOk a b = true) (hv0 : 0 ≤ vk) (hv1 : vk < 256) (hsc : vk = 1 → 0 ≤ s ∧ s ≤ 9) (w : World) :
    Calls Try.prog 55 #[.agg (DoR.cells ⟨2, f, nm, fk, a, b, vk, c, s, e, tx⟩).toArray] w fun x w' => ∃ v, x = .returned v ∧ OwnB w' w.heap.size v (DoR.enc ⟨2, f, nm, fk, a, b, vk, c, s, e, tx⟩) ∧ Mod [] w w' := by
  unfold DoR.cells
  dsimp only
  obtain ⟨s1, s2, s3, s4⟩ := spanOk_iff.1 hs
  obtain ⟨A1, W0, hA1, z1, hW0, hb, B0⟩ := BAt.start w (doObj 2 f nm fk a b vk c s e tx) 2
  obtain ⟨a1, c1, W1, r1, B1⟩ := B0.one f (by simp)
  have HE := Lib.hid (show [2] ++ [f] ++ numB a 3 ++ numB b 3 ++ [vk] ++ (if vk = 1 then numB (u64 c) 8 ++ [s % 256] else []) = DoR.enc ⟨2, f, nm, fk, a, b, vk, c, s, e, tx⟩ by
    simp [DoR.enc, ends]
    omega)
  have p0 := cell_blk hb 0
  have p1 := B0.cell 0
  have p2 := B0.cell 1
  have p3 := B1.cell 0
  have p4 := B1.cell 4
  have p5 := B1.cell 5
  simp only [List.getElem?_toArray, List.getElem?_cons_succ, List.getElem?_cons_zero] at p0 p1 p2 p3 p4 p5
  simp only [List.length_append, List.length_singleton, numsOf_length] at r1 B1
  have R1 := Lib.hid r1
  have HB1 := Lib.hid B1
  have HC1 := Lib.hid (refThree_any a s1 s2 W1.drew)
  have HC2 := Lib.hid (fun w => refThree_any b s3 s4 w)
  clear B0 B1 r1 hb hs s1 s2 s3 s4
  go_enter Try.func55, Try.ntmps55
  go_wp2_with (((with_reducible refine xAppendAt R1.out rfl rfl ?_ ?_ ?_ ?_); exact rfl; exact rfl; exact rfl))
  refine wp_plan [([0, 1, 6, 2, 7, 3, 8], 4, [6, 7, 8]), ([], 5, [6, 7, 8]), ([], 9, []), ([], 10, []), ([], 11, [])] [] (by kernel_rfl) (by kernel_rfl) ?_
  simp only [wpSegs, opsOf, List.map_cons, List.map_nil, opN, List.getD_cons_zero, List.getD_cons_succ]
  go_wp2_with fail
  refine ⟨by first | trivial | rfl, ?_⟩
  go_wp2_with fail
  refine HC1.out.mono ?_
  rintro x W2 ⟨v2, rfl, o2, m2⟩
  have B2 := HB1.out.kept0 ((Mod.refl [] W1).drew.trans m2)
  obtain ⟨a3, c3, W3, r3, B3⟩ := B2.bytes (o2.mono' (by have := HB1.out.size; simpa using this)) (by simp) (by simp [numB_length])
  have q4 := B2.cell 4
  have q5 := B2.cell 5
  have u4 := B3.cell 4
  have u5 := B3.cell 5
  simp only [List.getElem?_toArray, List.getElem?_cons_succ, List.getElem?_cons_zero] at q4 q5 u4 u5
  simp only [numB_length, List.length_append, List.length_singleton] at r3 B3
  obtain ⟨va, vc, rfl⟩ := o2.form
  have R3 := Lib.hid r3
  have HB3 := Lib.hid B3
  clear B2 B3 r3 o2 m2 HC1
  go_wp2_with fail
  refine ⟨?ag1, ?_⟩
  case ag1 =>
    intro i hi hw
    simp only [List.mem_cons, List.not_mem_nil, or_false] at hi
    rcases hi with rfl | rfl | rfl
    all_goals (simp only [opN, List.getD_cons_zero, List.getD_cons_succ, slotOf]; go_simp)
  go_wp2_with fail
  refine ⟨by first | trivial | rfl, ?_⟩
  go_wp2_with (((with_reducible refine xAppendAt R3.out rfl rfl ?_ ?_ ?_ ?_); exact rfl; exact rfl; exact rfl))
  refine ⟨?ag2, ?_⟩
  case ag2 =>
    intro i hi hw
    simp only [List.mem_cons, List.not_mem_nil, or_false] at hi
    rcases hi with rfl | rfl | rfl
    all_goals (simp only [opN, List.getD_cons_zero, List.getD_cons_succ, slotOf]; go_simp)
  go_wp2_with fail
  refine ⟨by first | trivial | rfl, ?_⟩
  go_wp2_with fail
  refine (HC2.out W3).mono ?_
  rintro x W4 ⟨v4, rfl, o4, m4⟩
  have B4 := HB3.out.kept0 m4
  obtain ⟨a5, c5, W5, r5, B5⟩ := B4.bytes (o4.mono' HB3.out.size) (by simp [numB_length]) (by simp [numB_length])
  simp only [numB_length, List.length_append, List.length_singleton] at r5 B5
  obtain ⟨a6, c6, W6, r6, B6⟩ := B5.one vk (by simp [numB_length])
  simp only [numB_length, List.length_append, List.length_singleton] at r6 B6
  have t0 := B5.cell 0
  have t6 := B5.cell 6
  have x0 := B6.cell 0
  have x6 := B6.cell 6
  have x7 := B6.cell 7
  simp only [List.getElem?_toArray, List.getElem?_cons_succ, List.getElem?_cons_zero] at t0 t6 x0 x6 x7
  obtain ⟨va4, vc4, rfl⟩ := o4.form
  have R5 := Lib.hid r5
  have R6 := Lib.hid r6
  have HB6 := Lib.hid B6
  clear B4 B5 B6 r5 r6 o4 m4 HC2
  go_wp2_with fail
  refine ⟨again_nil, ?_⟩
  go_wp2_with fail
  refine ⟨by first | trivial | rfl, ?_⟩
  go_wp2_with (((with_reducible refine xAppendAt R5.out rfl rfl ?_ ?_ ?_ ?_); exact rfl; exact rfl; exact rfl))
  refine ⟨again_nil, ?_⟩
  go_wp2_with fail
  refine ⟨by first | trivial | rfl, ?_⟩
  go_wp2_with fail
  refine ⟨again_nil, ?_⟩
  go_wp2_with fail
  refine ⟨by first | trivial | rfl, ?_⟩
  by_cases hk1 : vk = 1
  · subst hk1
    have HW : IntKind.u64.wrap c = u64 c := rfl
    have hu : 0 ≤ u64 c ∧ u64 c < 18446744073709551616 := by unfold u64; omega
    obtain ⟨hs0, hs9⟩ := hsc rfl
    go_wp2_with (((with_reducible refine xAppendAt R6.out rfl rfl ?_ ?_ ?_ ?_); exact rfl; exact rfl; exact rfl))
    go_loopw [3, 4, 5] (fun s3 s4 s5 wr => ∃ (k : Nat) (n : Int) (a' : Option Addr) (c' : Nat), k ≤ 8 ∧ s5 = .int .i64 k ∧ s4 = .int .u64 n ∧ 0 ≤ n ∧ n < 18446744073709551616 ∧ s3 = .slice a' (9 + k) c' ∧ Hid (BAt w wr (doObj 2 f nm fk a b 1 c s e tx) (.slice a' (9 + k) c') ([2] ++ [f] ++ numB a 3 ++ numB b 3 ++ [1] ++ (numB (u64 c) 8).take k)) ∧ Hid (n = u64 c * 256 ^ k % 18446744073709551616)) (fun _ _ s5 _ => 8 - (intOf s5).toNat)
    case atStart => exact ⟨0, _, _, _, by omega, rfl, rfl, hu.1, hu.2, rfl, Lib.hid (by simpa using HB6.out), Lib.hid (by rw [Int.pow_zero, Int.mul_one]; omega)⟩
    case round =>
      clear HB6 R6
      obtain ⟨k, n, a', c', hk, rfl, rfl, hn0, hn1, rfl, hB, hN⟩ := hrel
      have hbl : ([2] ++ [f] ++ numB a 3 ++ numB b 3 ++ [1] ++ (numB (u64 c) 8).take k).length = 9 + k := by
        simp [numB_length]
        omega
      have y0 := hB.out.cell 0
      have y8 := hB.out.cell 8
      simp only [List.getElem?_toArray, List.getElem?_cons_succ, List.getElem?_cons_zero] at y0 y8
      by_cases hlt : k < 8
      · obtain ⟨a8, c8, W8, r8, B8⟩ := hB.out.one (n / 72057594037927936) (by rw [hbl]; omega)
        rw [hbl] at r8 B8
        have hb0 : 0 ≤ n / 72057594037927936 := by omega
        have hb1 : n / 72057594037927936 ≤ 255 := by omega
        have HT := Lib.hid (show (numB (u64 c) 8).take (k + 1) = (numB (u64 c) 8).take k ++ [n / 72057594037927936] by
          rw [numB_take (u64 c) 8 k (7 - k) (by omega), hN.out]
          congr 2
          obtain ⟨u0, u1⟩ := hu
          generalize u64 c = U at u0 u1
          rcases (show k = 0 ∨ k = 1 ∨ k = 2 ∨ k = 3 ∨ k = 4 ∨ k = 5 ∨ k = 6 ∨ k = 7 by omega) with rfl | rfl | rfl | rfl | rfl | rfl | rfl | rfl <;> simp <;> omega)
        have HN := Lib.hid (show IntKind.u64.wrap (n * 256) = u64 c * 256 ^ (k + 1) % 18446744073709551616 by
          rw [hN.out, Int.pow_succ, ← Int.mul_assoc]
          show (u64 c * 256 ^ k % 18446744073709551616 * 256) % 18446744073709551616 = _
          rw [Int.mul_emod, Int.emod_emod, ← Int.mul_emod])
        have HNB := Lib.hid (show 0 ≤ IntKind.u64.wrap (n * 256) ∧ IntKind.u64.wrap (n * 256) < 18446744073709551616 by
          rw [HN.out]; omega)
        have R8 := Lib.hid r8
        have HB8 := Lib.hid B8
        clear r8 B8 hbl
        go_wp2_with (((with_reducible refine xAppendAt R8.out rfl rfl ?_ ?_ ?_ ?_); exact rfl; exact rfl; exact rfl))
        go_roundw
        case rel => exact ⟨k + 1, _, _, _, by omega, by go_num, rfl, HNB.out.1, HNB.out.2, rfl, Lib.hid (by rw [HT.out, ← List.append_assoc]; exact HB8.out), HN⟩
        case measure => simp [intOf]; omega
      · obtain rfl : k = 8 := by omega
        obtain ⟨a8, c8, W8, r8, B8⟩ := hB.out.one s (by rw [hbl]; omega)
        rw [hbl] at r8 B8
        have z0 := B8.cell 0
        simp only [List.getElem?_toArray, List.getElem?_cons_succ, List.getElem?_cons_zero] at z0
        have HEE := Lib.hid (show [2] ++ [f] ++ numB a 3 ++ numB b 3 ++ [1] ++ (numB (u64 c) 8).take 8 ++ [s] = DoR.enc ⟨2, f, nm, fk, a, b, 1, c, s, e, tx⟩ by
          rw [← HE.out]
          simp only [if_true]
          rw [List.take_of_length_le (by rw [numB_length]; omega), Int.emod_eq_of_lt hs0 (by omega)]
          simp)
        have R8 := Lib.hid r8
        have HB8 := Lib.hid B8
        clear r8 B8 hbl
        go_wp2_with (((with_reducible refine xAppendAt R8.out rfl rfl ?_ ?_ ?_ ?_); exact rfl; exact rfl; exact rfl))
        go_ret
        refine ⟨_, rfl, ?_, HB8.out.mod⟩
        rw [← HEE.out]
        exact HB8.out.own.mono' (Nat.le_succ _)
  · have hkb : (vk == 1) = false := by simpa using hk1
    have HEE := Lib.hid (show [2] ++ [f] ++ numB a 3 ++ numB b 3 ++ [vk] = DoR.enc ⟨2, f, nm, fk, a, b, vk, c, s, e, tx⟩ by
      rw [← HE.out, if_neg hk1]; simp)
    clear hk1 hsc
    go_wp2_with (((with_reducible refine xAppendAt R6.out rfl rfl ?_ ?_ ?_ ?_); exact rfl; exact rfl; exact rfl))
    go_ret
    refine ⟨_, rfl, ?_, HB6.out.mod⟩
    rw [← HEE.out]
    exact HB6.out.own.mono' (Nat.le_succ _)
end Go.Proofs.Ytnoookcfacmdkaa
namespace Go.Proofs.Ytnoookcfacmdkaa
open Go.RowKit Go.ChangeMaps Go.Deep
set_option linter.unusedSimpArgs false
set_option linter.unusedVariables false
set_option maxRecDepth 20000

theorem refOne_any (d : DoR) (h : d.may = true) (w : World) : Calls Try.prog 55 #[.agg d.cells.toArray] w fun x w' => ∃ v, x = .returned v ∧ OwnB w' w.heap.size v d.enc ∧ Mod [] w w' := by
  obtain ⟨h1, h2, h3, h4, h5, h6, h7⟩ := may_kinds h
  obtain ⟨k, f, nm, fk, a, b, vk, c, s, e, tx⟩ := d
  dsimp only at h1 h3 h4 h5 h6 h7
  rcases (show k = 1 ∨ k = 2 ∨ k = 3 ∨ (k = 4 ∨ k = 6) ∨ (k = 5 ∨ k = 7) by omega) with rfl | rfl | rfl | hk | hk
  · exact rone_1 f nm fk a b vk c s e tx h4 w
  · obtain ⟨g1, g2, g3⟩ := h7 rfl
    obtain ⟨_, g4, _⟩ := mayV_e g1 g2 g3
    exact rone_2 f nm fk a b vk c s e tx h3.1 h3.2 h6 (by omega) (by omega) g4 w
  · exact rone_3 f nm fk a b vk c s e tx h3.1 h3.2 h6 w
  · exact rone_4 k f nm fk a b vk c s e tx hk h3.1 h3.2 h5 w
  · exact rone_5 k f nm fk a b vk c s e tx hk h3.1 h3.2 w
theorem refEnds_len (a b : Int) : (ends a b).length = 6 := by simp [ends, numB_length]
theorem refEnc_len (d : DoR) (h : d.may = true) : d.enc.length ≤ 1000 := by
  obtain ⟨h1, h2, h3, h4, h5, h6, h7⟩ := may_kinds h
  unfold DoR.enc
  split
  · simp [numsOf_length]; omega
  · split
    · split <;> simp [refEnds_len, numB_length]
    · split
      · simp [refEnds_len]
      · split
        · simp [numB_length, numsOf_length]; omega
        · simp
theorem refEncs_take {ds : List DoR} {i : Nat} (hi : i < ds.length) : encs (ds.take (i + 1)) = encs (ds.take i) ++ ds[i].enc := by
  have h : ∀ (a : List DoR) (d : DoR), encs (a ++ [d]) = encs a ++ d.enc := fun a d => by
    induction a with
    | nil => simp [encs]
    | cons x a ih => simp [encs, ih]
  rw [List.take_succ_eq_append_getElem hi, h]
theorem refEncs_len {ds : List DoR} (h : ∀ d ∈ ds, d.may = true) : (encs ds).length ≤ ds.length * 1000 := by
  induction ds with
  | nil => simp [encs]
  | cons x ds ih =>
    have h1 := ih fun d hd => h d (.tail _ hd)
    have h2 := refEnc_len x (h x (.head _))
    simp only [encs, List.length_append, List.length_cons]
    omega
set_option maxHeartbeats 8000000 in
theorem refEncode_any (r : RecR) (v : Value) (w : World) (h : DosAt w v r.ds) (hm : r.may = true) :
    Calls Try.prog 33 #[recV r v] w fun e w' => ∃ v', e = .returned v' ∧ OwnB w' w.heap.size v' r.enc ∧ Mod [] w w' := by
  obtain ⟨k, ds, a, b⟩ := r
  unfold recV
  dsimp only at h ⊢
  have H := Lib.hid h
  obtain ⟨ra, rc, rfl, _⟩ := h
  by_cases hk : k = 1
  · subst hk
    have hmm : ds.length ≤ 64 ∧ ∀ d ∈ ds, d.may = true := by
      simp only [RecR.may, if_true, Bool.and_eq_true, decide_eq_true_eq, List.all_eq_true] at hm
      exact ⟨hm.1.1, hm.2⟩
    obtain ⟨hl, hall⟩ := hmm
    have HALL := Lib.hid hall
    obtain ⟨A1, W0, hA1, z1, hW0, hb, B0⟩ := BAt.start w (.cells #[.int .u8 1, .slice ra ds.length rc, .int .i64 a, .int .i64 b] 54) 1
    obtain ⟨a1, c1, W1, r1, B1⟩ := B0.one ds.length (by simp)
    have HE := Lib.hid (show [1] ++ [(ds.length : Int)] ++ encs ds = RecR.enc ⟨1, ds, a, b⟩ by
      simp [RecR.enc]
      omega)
    have p0 := cell_blk hb 0
    have p1 := cell_blk B0.box 0
    have p2 := cell_blk B0.box 1
    simp only [List.getElem?_toArray, List.getElem?_cons_succ, List.getElem?_cons_zero] at p0 p1 p2
    simp only [List.length_append, List.length_singleton] at r1 B1
    have R1 := Lib.hid r1
    have HB1 := Lib.hid B1
    have hl2 : (ds.length : Int) ≤ 64 := by omega
    clear B0 B1 r1 hb hm hall
    go_enter Try.func33, Try.ntmps33
    go_wp2_with (((with_reducible refine xAppendAt R1.out rfl rfl ?_ ?_ ?_ ?_); exact rfl; exact rfl; exact rfl))
    go_loopw [3, 4] (fun s3 s4 wr => ∃ (i m : Nat) (a' : Option Addr) (c' : Nat), i ≤ ds.length ∧ s4 = .int .i64 i ∧ s3 = .slice a' m c' ∧ Hid (m = 2 + (encs (ds.take i)).length) ∧ Hid (BAt w wr (.cells #[.int .u8 1, .slice ra ds.length rc, .int .i64 a, .int .i64 b] 54) (.slice a' m c') ([1] ++ [(ds.length : Int)] ++ encs (ds.take i)))) (fun _ s4 _ => ds.length - (intOf s4).toNat)
    case atStart => exact ⟨0, _, _, _, by omega, rfl, rfl, Lib.hid (by simp [encs]), Lib.hid (by simpa [encs] using HB1.out)⟩
    case round =>
      clear HB1 R1
      obtain ⟨i, m, a', c', hi, rfl, rfl, hM, hB⟩ := hrel
      have y0 := cell_blk hB.out.box 1
      simp only [List.getElem?_toArray, List.getElem?_cons_succ, List.getElem?_cons_zero] at y0
      by_cases hlt : i < ds.length
      · obtain ⟨bD, oD, rfl, hr⟩ := H.out.get hlt
        have hr := rangeAt_mod hr hB.out.mod (by simp)
        have hdm := HALL.out ds[i] (List.getElem_mem hlt)
        have HT := Lib.hid (refEncs_take hlt)
        have hen := refEnc_len ds[i] hdm
        have hel := refEncs_len (ds := ds.take i) fun d hd => HALL.out d (List.mem_of_mem_take hd)
        rw [List.length_take] at hel
        have HC := Lib.hid (refOne_any ds[i] hdm wr)
        generalize ds[i] = d at hr HT HC hen
        have HL := Lib.hid (load_do hr)
        clear hr hdm
        go_wp2_with (refine xLoadAt (t := 78) rfl HL.out rfl rfl ?_)
        refine HC.out.mono ?_
        rintro e W2 ⟨v2, rfl, o2, m2⟩
        have hbl : ([1] ++ [(ds.length : Int)] ++ encs (ds.take i)).length = m := by
          rw [hM.out]; simp; omega
        obtain ⟨a3, c3, W3, r3, B3⟩ := (hB.out.kept0 m2).bytes (o2.mono' hB.out.size) (by rw [hbl, hM.out]; omega) (by omega)
        rw [hbl] at r3 B3
        obtain ⟨va, vc, rfl⟩ := o2.form
        have R3 := Lib.hid r3
        have HB3 := Lib.hid B3
        have HMM := Lib.hid (show m + d.enc.length = 2 + (encs (ds.take (i + 1))).length by rw [HT.out, List.length_append, hM.out]; omega)
        clear r3 B3 o2 m2 HC hbl hel hen
        go_wp2_with (((with_reducible refine xAppendAt R3.out rfl rfl ?_ ?_ ?_ ?_); exact rfl; exact rfl; exact rfl))
        go_roundw
        case rel => exact ⟨i + 1, _, _, _, by omega, by go_num, rfl, HMM, Lib.hid (by rw [HT.out, ← List.append_assoc]; exact HB3.out)⟩
        case measure => simp [intOf]; omega
      · have HTT := Lib.hid (show ds.take i = ds by rw [List.take_of_length_le (by omega)])
        go_wp2_with fail
        go_ret
        refine ⟨_, rfl, ?_, hB.out.mod⟩
        have := hB.out.own
        rw [HTT.out, HE.out] at this
        exact this.mono' (Nat.le_succ _)
  · have hs : spanOk a b = true := by
      unfold RecR.may at hm
      rw [if_neg hk] at hm
      split at hm
      · simp only [Bool.and_eq_true] at hm; exact hm.2
      · cases hm
    obtain ⟨s1, s2, s3, s4⟩ := spanOk_iff.1 hs
    have hkb : (k != 1) = true := by simpa using hk
    obtain ⟨A1, W0, hA1, z1, hW0, hb, B0⟩ := BAt.start w (.cells #[.int .u8 k, .slice ra ds.length rc, .int .i64 a, .int .i64 b] 54) k
    have HE := Lib.hid (show [k] ++ numB a 3 ++ numB b 3 = RecR.enc ⟨k, ds, a, b⟩ by simp [RecR.enc, hk, ends])
    have p0 := cell_blk hb 0
    have p1 := cell_blk B0.box 0
    have p2 := cell_blk B0.box 2
    have p3 := cell_blk B0.box 3
    simp only [List.getElem?_toArray, List.getElem?_cons_succ, List.getElem?_cons_zero] at p0 p1 p2 p3
    have HB0 := Lib.hid B0
    have HC1 := Lib.hid (refThree_any a s1 s2 W0.drew)
    have HC2 := Lib.hid (fun w => refThree_any b s3 s4 w)
    clear B0 hb hs s1 s2 s3 s4 hk hm
    go_enter Try.func33, Try.ntmps33
    go_wp2_with fail
    refine wp_plan [([0, 1, 6, 2, 7, 3, 8], 4, [6, 7, 8]), ([], 5, [6, 7, 8]), ([], 9, []), ([], 10, [])] [11] (by kernel_rfl) (by kernel_rfl) ?_
    simp only [wpSegs, opsOf, List.map_cons, List.map_nil, opN, List.getD_cons_zero, List.getD_cons_succ]
    go_wp2_with fail
    refine ⟨by first | trivial | rfl, ?_⟩
    go_wp2_with fail
    refine HC1.out.mono ?_
    rintro x W2 ⟨v2, rfl, o2, m2⟩
    have B2 := HB0.out.kept0 ((Mod.refl [] W0).drew.trans m2)
    obtain ⟨a3, c3, W3, r3, B3⟩ := B2.bytes (o2.mono' (by have := HB0.out.size; simpa using this)) (by simp) (by simp [numB_length])
    have q4 := cell_blk B2.box 2
    have q5 := cell_blk B2.box 3
    have u4 := cell_blk B3.box 2
    have u5 := cell_blk B3.box 3
    simp only [List.getElem?_toArray, List.getElem?_cons_succ, List.getElem?_cons_zero] at q4 q5 u4 u5
    simp only [numB_length, List.length_append, List.length_singleton] at r3 B3
    obtain ⟨va, vc, rfl⟩ := o2.form
    have R3 := Lib.hid r3
    have HB3 := Lib.hid B3
    clear B2 B3 r3 o2 m2 HC1
    go_wp2_with fail
    refine ⟨?ag1, ?_⟩
    case ag1 =>
      intro i hi hw
      simp only [List.mem_cons, List.not_mem_nil, or_false] at hi
      rcases hi with rfl | rfl | rfl
      all_goals (simp only [opN, List.getD_cons_zero, List.getD_cons_succ, slotOf]; go_simp)
    go_wp2_with fail
    refine ⟨by first | trivial | rfl, ?_⟩
    go_wp2_with (((with_reducible refine xAppendAt R3.out rfl rfl ?_ ?_ ?_ ?_); exact rfl; exact rfl; exact rfl))
    refine ⟨?ag2, ?_⟩
    case ag2 =>
      intro i hi hw
      simp only [List.mem_cons, List.not_mem_nil, or_false] at hi
      rcases hi with rfl | rfl | rfl
      all_goals (simp only [opN, List.getD_cons_zero, List.getD_cons_succ, slotOf]; go_simp)
    go_wp2_with fail
    refine ⟨by first | trivial | rfl, ?_⟩
    go_wp2_with fail
    refine (HC2.out W3).mono ?_
    rintro x W4 ⟨v4, rfl, o4, m4⟩
    have B4 := HB3.out.kept0 m4
    obtain ⟨a5, c5, W5, r5, B5⟩ := B4.bytes (o4.mono' HB3.out.size) (by simp [numB_length]) (by simp [numB_length])
    simp only [numB_length, List.length_append, List.length_singleton] at r5 B5
    obtain ⟨va4, vc4, rfl⟩ := o4.form
    have R5 := Lib.hid r5
    have HB5 := Lib.hid B5
    clear B4 B5 r5 o4 m4 HC2
    go_wp2_with fail
    refine ⟨again_nil, ?_⟩
    go_wp2_with fail
    refine ⟨by first | trivial | rfl, ?_⟩
    go_wp2_with (((with_reducible refine xAppendAt R5.out rfl rfl ?_ ?_ ?_ ?_); exact rfl; exact rfl; exact rfl))
    refine ⟨again_nil, ?_⟩
    go_wp2_with fail
    refine ⟨by first | trivial | rfl, ?_⟩
    go_wp2_with fail
    go_ret
    refine ⟨_, rfl, ?_, HB5.out.mod⟩
    rw [← HE.out]
    exact HB5.out.own.mono' (Nat.le_succ _)
end Go.Proofs.Ytnoookcfacmdkaa
namespace Go.Proofs.Ytnoookcfacmdkaa
open Go.RowKit Go.ChangeMaps Go.Deep
set_option linter.unusedSimpArgs false
set_option linter.unusedVariables false
set_option maxRecDepth 20000

/-- an operation at a place, and where it ends; what lacks is as noughts -/
def readN (l : List Int) (i : Nat) : DoR × Nat :=
  let k := atL l i
  if k = 1 then ({ DoR.zero with k := 1, nm := strOfNums ((l.drop (i + 2)).take (atL l (i + 1)).toNat), fk := atL l ((i : Int) + 2 + atL l (i + 1)) }, i + 3 + (atL l (i + 1)).toNat)
  else if k = 2 then
    if atL l ((i : Int) + 8) = 1 then ({ DoR.zero with k := 2, f := atL l (i + 1), a := spanA l (i + 2), b := spanA l (i + 5), vk := 1, c := i64of (readNum ((List.range 8).map fun (j : Nat) => atL l ((i : Int) + 9 + (j : Nat)))), s := atL l ((i : Int) + 17) }, i + 18)
    else ({ DoR.zero with k := 2, f := atL l (i + 1), a := spanA l (i + 2), b := spanA l (i + 5), vk := atL l ((i : Int) + 8) }, i + 9)
  else if k = 3 then ({ DoR.zero with k := 3, f := atL l (i + 1), a := spanA l (i + 2), b := spanA l (i + 5) }, i + 8)
  else if k = 4 ∨ k = 6 then ({ DoR.zero with k := k, f := atL l (i + 1), tx := strOfNums ((l.drop (i + 4)).take (atL l ((i : Int) + 2) * 256 + atL l ((i : Int) + 3)).toNat) }, i + 4 + (atL l ((i : Int) + 2) * 256 + atL l ((i : Int) + 3)).toNat)
  else ({ DoR.zero with k := k, f := atL l (i + 1) }, i + 2)
def ReadPost (w : World) (p : DoR × Nat) (e : Ending) (w' : World) : Prop := e = .returned (.tuple #[.agg p.1.cells.toArray, .int .i64 p.2]) ∧ Mod [] w w'
set_option maxHeartbeats 8000000 in
theorem refRead_1 (a : Option Addr) (c : Nat) (l : List Int) (i : Nat) (w : World) (h : BytesAt w (.slice a l.length c) l) (hcap : l.length ≤ c) (hB : Byt l) (hl : l.length ≤ 140737488355328) (hi : i ≤ 140737488355328) (hk : atL l i = 1) :
    Calls Try.prog 43 #[.slice a l.length c, .int .i64 i] w (ReadPost w (readN l i)) := by
  have HAT := Lib.hid (fun (j : Int) (W : World) (hm : Mod [] w W) => refAt_any _ l j W (h.kept0 hm) hB hl)
  have HPT := Lib.hid (fun (j n : Nat) (W : World) (hm : Mod [] w W) (h1 : j ≤ 140737488355328000) (h2 : n ≤ 140737488355328) => refPart_any a c l j n W (h.kept0 hm) hcap hB hl h1 h2)
  have hn := atL_byt hB (i + 1)
  obtain ⟨n, hn2⟩ : ∃ n : Nat, Hid (atL l (i + 1) = n) := ⟨(atL l (i + 1)).toNat, Lib.hid (by omega)⟩
  have hn3 : n < 256 := by have := hn2.out; omega
  have hfk := atL_byt hB ((i : Int) + 2 + n)
  have HE := Lib.hid (show readN l i = ({ DoR.zero with k := 1, nm := strOfNums ((l.drop (i + 2)).take n), fk := atL l ((i : Int) + 2 + n) }, i + 3 + n) by
    unfold readN
    simp only [hk, if_true]
    rw [hn2.out]
    simp)
  have HK := Lib.hid hk
  have H0 := Lib.hid (fun W hm => by have := HAT.out (i : Int) W hm; rwa [hk] at this)
  have H1 := Lib.hid (fun W hm => by have := HAT.out ((i : Int) + 1) W hm; rwa [hn2.out] at this)
  have H2 := Lib.hid (fun W hm => HAT.out ((i : Int) + 2 + n) W hm)
  have H3 := Lib.hid (fun W hm => by have := HPT.out (i + 2) n W hm (by omega) (by omega); rwa [show ((i + 2 : Nat) : Int) = (i : Int) + 2 by omega] at this)
  generalize atL l ((i : Int) + 2 + n) = fk at hfk HE H2
  generalize strOfNums ((l.drop (i + 2)).take n) = nm at HE H3
  clear h hB hk hn
  go_enter Try.func43, Try.ntmps43
  go_wp2_with fail
  refine (H0.out _ ((Mod.refl [] w).alloc _)).mono ?_
  rintro e w1 ⟨rfl, rfl⟩
  go_wp2_with fail
  refine (H1.out _ (((Mod.refl [] w).alloc _).alloc _)).mono ?_
  rintro e w1 ⟨rfl, rfl⟩
  go_wp2_with fail
  refine (H3.out _ (((Mod.refl [] w).alloc _).alloc _)).mono ?_
  rintro e w1 ⟨rfl, rfl⟩
  go_wp2_with fail
  refine (H2.out _ (((Mod.refl [] w).alloc _).alloc _)).mono ?_
  rintro e w1 ⟨rfl, rfl⟩
  go_wp2_with fail
  refine bodyPost_ret (v := .tuple #[.agg #[.int .u8 1, .int .i64 0, .string nm, .int .u8 fk, .int .i64 0, .int .i64 0, .int .u8 0, .int .i64 0, .int .i64 0, .int .i64 0, .string ⟨#[]⟩], .int .i64 ((i : Int) + 3 + n)]) (by simp [results, Try.results43, go_sem]) rfl ⟨?_, ((Mod.refl [] w).alloc _).alloc _⟩
  rw [HE.out]
  simp [DoR.cells, DoR.zero, noStr]
set_option maxHeartbeats 2000000 in
theorem refSpan2_any (v : Value) (l : List Int) (i : Int) (w : World) (h : BytesAt w v l) (hB : Byt l) (hl : l.length ≤ 140737488355328) (hi0 : 0 ≤ i) (hi1 : i ≤ 140737488355328000) :
    Calls Try.prog 44 #[v, .int .i64 i] w fun e w' => e = .returned (.agg #[.int .i64 (spanA l i), .int .i64 (spanA l (i + 3))]) ∧ w' = w.alloc (.cells #[.int .i64 (spanA l i), .int .i64 (spanA l (i + 3))] 52) := by
  have HC := Lib.hid (fun (j : Int) (W : World) (hm : Mod [] w W) => refAt_any v l j W (h.kept0 hm) hB hl)
  have b0 := atL_byt hB i
  have b1 := atL_byt hB (i + 1)
  have b2 := atL_byt hB (i + 2)
  have b3 := atL_byt hB (i + 3)
  have b4 := atL_byt hB (i + 4)
  have b5 := atL_byt hB (i + 5)
  have HS1 := Lib.hid (show atL l i * 65536 + atL l (i + 1) * 256 + atL l (i + 2) = spanA l i from rfl)
  have HS2 := Lib.hid (show atL l (i + 3) * 65536 + atL l (i + 4) * 256 + atL l (i + 5) = spanA l (i + 3) by unfold spanA; rw [show i + 3 + 1 = i + 4 by omega, show i + 3 + 2 = i + 5 by omega])
  have c0 := Lib.hid (HC.out i)
  have c1 := Lib.hid (HC.out (i + 1))
  have c2 := Lib.hid (HC.out (i + 2))
  have c3 := Lib.hid (HC.out (i + 3))
  have c4 := Lib.hid (HC.out (i + 4))
  have c5 := Lib.hid (HC.out (i + 5))
  obtain ⟨a, c, rfl⟩ := h.form
  rw [← HS1.out, ← HS2.out]
  generalize atL l i = x0 at *
  generalize atL l (i + 1) = x1 at *
  generalize atL l (i + 2) = x2 at *
  generalize atL l (i + 3) = x3 at *
  generalize atL l (i + 4) = x4 at *
  generalize atL l (i + 5) = x5 at *
  clear h hB HC hl HS1 HS2
  go_enter Try.func44, Try.ntmps44
  go_wp2_with fail
  refine (c0.out _ ((Mod.refl [] w).alloc _)).mono ?_
  rintro e A1 ⟨rfl, rfl⟩
  go_wp2_with fail
  refine (c1.out _ ((Mod.refl [] w).alloc _)).mono ?_
  rintro e A1 ⟨rfl, rfl⟩
  go_wp2_with fail
  refine (c2.out _ ((Mod.refl [] w).alloc _)).mono ?_
  rintro e A1 ⟨rfl, rfl⟩
  go_wp2_with fail
  refine (c3.out _ ((Mod.refl [] w).alloc _)).mono ?_
  rintro e A1 ⟨rfl, rfl⟩
  go_wp2_with fail
  refine (c4.out _ ((Mod.refl [] w).alloc _)).mono ?_
  rintro e A1 ⟨rfl, rfl⟩
  go_wp2_with fail
  refine (c5.out _ ((Mod.refl [] w).alloc _)).mono ?_
  rintro e A1 ⟨rfl, rfl⟩
  go_wp2_with fail
  exact bodyPost_ret (v := .agg #[.int .i64 (x0 * 65536 + x1 * 256 + x2), .int .i64 (x3 * 65536 + x4 * 256 + x5)]) (by simp [results, Try.results44, go_sem]) rfl ⟨rfl, rfl⟩
end Go.Proofs.Ytnoookcfacmdkaa
namespace Go.Proofs.Ytnoookcfacmdkaa
open Go.RowKit Go.ChangeMaps Go.Deep
set_option linter.unusedSimpArgs false
set_option linter.unusedVariables false
set_option maxRecDepth 20000

set_option maxHeartbeats 8000000 in
theorem refRead_o (a : Option Addr) (c : Nat) (l : List Int) (i : Nat) (w : World) (h : BytesAt w (.slice a l.length c) l) (hcap : l.length ≤ c) (hB : Byt l) (hl : l.length ≤ 140737488355328) (hi : i ≤ 140737488355328) (hk : atL l i ≠ 1 ∧ atL l i ≠ 2 ∧ atL l i ≠ 3 ∧ atL l i ≠ 4 ∧ atL l i ≠ 6) :
    Calls Try.prog 43 #[.slice a l.length c, .int .i64 i] w (ReadPost w (readN l i)) := by
  have HAT := Lib.hid (fun (j : Int) (W : World) (hm : Mod [] w W) => refAt_any _ l j W (h.kept0 hm) hB hl)
  have HE := Lib.hid (show readN l i = ({ DoR.zero with k := atL l i, f := atL l (i + 1) }, i + 2) by
    unfold readN
    simp only [hk.1, hk.2.1, hk.2.2.1, hk.2.2.2.1, hk.2.2.2.2, if_false, or_self])
  have hk0 := atL_byt hB i
  have H0 := Lib.hid (fun W hm => HAT.out (i : Int) W hm)
  have H1 := Lib.hid (fun W hm => HAT.out ((i : Int) + 1) W hm)
  generalize atL l i = k at *
  generalize atL l ((i : Int) + 1) = f at *
  have k1 : (k == 1) = false := by simpa using hk.1
  have k2 : (k == 2) = false := by simpa using hk.2.1
  have k3 : (k == 3) = false := by simpa using hk.2.2.1
  have k4 : (k == 4) = false := by simpa using hk.2.2.2.1
  have k6 : (k == 6) = false := by simpa using hk.2.2.2.2
  clear h hB hk HAT
  go_enter Try.func43, Try.ntmps43
  go_wp2_with fail
  refine (H0.out _ (((Mod.refl [] w).alloc _))).mono ?_
  rintro e w1 ⟨rfl, rfl⟩
  go_wp2_with fail
  refine (H1.out _ ((((Mod.refl [] w).alloc _).alloc _))).mono ?_
  rintro e w1 ⟨rfl, rfl⟩
  go_wp2_with fail
  refine bodyPost_ret (v := .tuple #[.agg #[.int .u8 k, .int .i64 f, .string ⟨#[]⟩, .int .u8 0, .int .i64 0, .int .i64 0, .int .u8 0, .int .i64 0, .int .i64 0, .int .i64 0, .string ⟨#[]⟩], .int .i64 ((i : Int) + 2)]) (by simp [results, Try.results43, go_sem]) rfl ⟨?_, (((Mod.refl [] w).alloc _).alloc _)⟩
  rw [HE.out]
  simp [DoR.cells, DoR.zero, noStr]
set_option maxHeartbeats 8000000 in
theorem refRead_3 (a : Option Addr) (c : Nat) (l : List Int) (i : Nat) (w : World) (h : BytesAt w (.slice a l.length c) l) (hcap : l.length ≤ c) (hB : Byt l) (hl : l.length ≤ 140737488355328) (hi : i ≤ 140737488355328) (hk : atL l i = 3) :
    Calls Try.prog 43 #[.slice a l.length c, .int .i64 i] w (ReadPost w (readN l i)) := by
  have HAT := Lib.hid (fun (j : Int) (W : World) (hm : Mod [] w W) => refAt_any _ l j W (h.kept0 hm) hB hl)
  have HSP := Lib.hid (fun (W : World) (hm : Mod [] w W) => refSpan2_any _ l ((i : Int) + 2) W (h.kept0 hm) hB hl (by omega) (by omega))
  have HE := Lib.hid (show readN l i = ({ DoR.zero with k := 3, f := atL l (i + 1), a := spanA l (i + 2), b := spanA l (i + 5) }, i + 8) by
    unfold readN
    simp only [hk]
    rfl)
  have H0 := Lib.hid (fun W hm => by have := HAT.out (i : Int) W hm; rwa [hk] at this)
  have H1 := Lib.hid (fun W hm => HAT.out ((i : Int) + 1) W hm)
  rw [show (i : Int) + 2 + 3 = (i : Int) + 5 by omega] at HSP
  generalize atL l ((i : Int) + 1) = f at *
  generalize spanA l ((i : Int) + 2) = A at *
  generalize spanA l ((i : Int) + 5) = B at *
  clear h hB hk HAT
  go_enter Try.func43, Try.ntmps43
  go_wp2_with fail
  refine (H0.out _ (((Mod.refl [] w).alloc _))).mono ?_
  rintro e w1 ⟨rfl, rfl⟩
  go_wp2_with fail
  refine (H1.out _ ((((Mod.refl [] w).alloc _).alloc _))).mono ?_
  rintro e w1 ⟨rfl, rfl⟩
  go_wp2_with fail
  refine (HSP.out _ ((((Mod.refl [] w).alloc _).alloc _))).mono ?_
  rintro e w1 ⟨rfl, rfl⟩
  go_wp2_with fail
  refine bodyPost_ret (v := .tuple #[.agg #[.int .u8 3, .int .i64 f, .string ⟨#[]⟩, .int .u8 0, .int .i64 A, .int .i64 B, .int .u8 0, .int .i64 0, .int .i64 0, .int .i64 0, .string ⟨#[]⟩], .int .i64 ((i : Int) + 2 + 6)]) (by simp [results, Try.results43, go_sem]) rfl ⟨?_, ((((Mod.refl [] w).alloc _).alloc _).alloc _)⟩
  rw [HE.out]
  simp [DoR.cells, DoR.zero, noStr]
  omega
set_option maxHeartbeats 8000000 in
theorem refRead_4 (a : Option Addr) (c : Nat) (l : List Int) (i : Nat) (w : World) (h : BytesAt w (.slice a l.length c) l) (hcap : l.length ≤ c) (hB : Byt l) (hl : l.length ≤ 140737488355328) (hi : i ≤ 140737488355328) (hk : atL l i = 4 ∨ atL l i = 6) :
    Calls Try.prog 43 #[.slice a l.length c, .int .i64 i] w (ReadPost w (readN l i)) := by
  have HAT := Lib.hid (fun (j : Int) (W : World) (hm : Mod [] w W) => refAt_any _ l j W (h.kept0 hm) hB hl)
  have HPT := Lib.hid (fun (j n : Nat) (W : World) (hm : Mod [] w W) (h1 : j ≤ 140737488355328000) (h2 : n ≤ 140737488355328) => refPart_any a c l j n W (h.kept0 hm) hcap hB hl h1 h2)
  have hx := atL_byt hB ((i : Int) + 2)
  have hy := atL_byt hB ((i : Int) + 3)
  have HE := Lib.hid (show readN l i = ({ DoR.zero with k := atL l i, f := atL l (i + 1), tx := strOfNums ((l.drop (i + 4)).take (atL l ((i : Int) + 2) * 256 + atL l ((i : Int) + 3)).toNat) }, i + 4 + (atL l ((i : Int) + 2) * 256 + atL l ((i : Int) + 3)).toNat) by
    unfold readN
    rcases hk with hk | hk <;> (simp only [hk]; rfl))
  have H0 := Lib.hid (fun W hm => HAT.out (i : Int) W hm)
  have H1 := Lib.hid (fun W hm => HAT.out ((i : Int) + 1) W hm)
  have H2 := Lib.hid (fun W hm => HAT.out ((i : Int) + 2) W hm)
  have H3 := Lib.hid (fun W hm => HAT.out ((i : Int) + 3) W hm)
  rw [show (i : Int) + 3 = (i : Int) + 2 + 1 by omega] at H3
  rw [show (i : Int) + 3 = (i : Int) + 2 + 1 by omega] at HE hy
  generalize atL l i = k at *
  generalize atL l ((i : Int) + 1) = f at *
  generalize atL l ((i : Int) + 2) = x at *
  generalize atL l ((i : Int) + 2 + 1) = y at *
  obtain ⟨n, hn⟩ : ∃ n : Nat, Hid (x * 256 + y = n) := ⟨(x * 256 + y).toNat, Lib.hid (by omega)⟩
  have hnb : n < 65536 := by have := hn.out; omega
  have H4 := Lib.hid (fun W hm => by have := HPT.out (i + 4) n W hm (by omega) (by omega); rwa [show ((i + 4 : Nat) : Int) = (i : Int) + 2 + 2 by omega] at this)
  rw [hn.out, Int.toNat_natCast] at HE
  generalize strOfNums ((l.drop (i + 4)).take n) = tx at *
  have hnn := hn.out
  clear h hB HAT HPT
  rcases hk with rfl | rfl
  all_goals
    go_enter Try.func43, Try.ntmps43
    go_wp2_with fail
    refine (H0.out _ (((Mod.refl [] w).alloc _))).mono ?_
    rintro e w1 ⟨rfl, rfl⟩
    go_wp2_with fail
    refine (H1.out _ ((((Mod.refl [] w).alloc _).alloc _))).mono ?_
    rintro e w1 ⟨rfl, rfl⟩
    go_wp2_with fail
    refine (H2.out _ ((((Mod.refl [] w).alloc _).alloc _))).mono ?_
    rintro e w1 ⟨rfl, rfl⟩
    go_wp2_with fail
    refine (H3.out _ ((((Mod.refl [] w).alloc _).alloc _))).mono ?_
    rintro e w1 ⟨rfl, rfl⟩
    go_wp2_with fail
    refine (H4.out _ ((((Mod.refl [] w).alloc _).alloc _))).mono ?_
    rintro e w1 ⟨rfl, rfl⟩
    go_wp2_with fail
    refine bodyPost_ret (v := .tuple #[.agg #[.int .u8 _, .int .i64 f, .string ⟨#[]⟩, .int .u8 0, .int .i64 0, .int .i64 0, .int .u8 0, .int .i64 0, .int .i64 0, .int .i64 0, .string tx], .int .i64 ((i : Int) + 2 + 2 + n)]) (by simp [results, Try.results43, go_sem]; first | rfl | omega) rfl ⟨?_, ((Mod.refl [] w).alloc _).alloc _⟩
    rw [HE.out]
    simp [DoR.cells, DoR.zero, noStr]
    omega
end Go.Proofs.Ytnoookcfacmdkaa
namespace Go.Proofs.Ytnoookcfacmdkaa
open Go.RowKit Go.ChangeMaps Go.Deep
set_option linter.unusedSimpArgs false
set_option linter.unusedVariables false
set_option maxRecDepth 20000

/-- the number of the first n of eight bytes from a place on -/
def rn (l : List Int) (p : Int) (n : Nat) : Int := readNum ((List.range n).map fun (j : Nat) => atL l (p + (j : Nat)))
theorem rn_succ (l : List Int) (p : Int) (n : Nat) : rn l p (n + 1) = rn l p n * 256 + atL l (p + (n : Nat)) := by
  unfold rn readNum
  rw [List.range_succ, List.map_append, List.foldl_append]
  rfl
theorem rn_in {l : List Int} (hB : Byt l) (p : Int) (n : Nat) : 0 ≤ rn l p n ∧ rn l p n < 256 ^ n := by
  induction n with
  | zero => simp [rn, readNum]
  | succ n ih =>
    rw [rn_succ, Int.pow_succ]
    have := atL_byt hB (p + (n : Nat))
    omega
set_option maxHeartbeats 8000000 in
theorem refRead_2o (a : Option Addr) (c : Nat) (l : List Int) (i : Nat) (w : World) (h : BytesAt w (.slice a l.length c) l) (hcap : l.length ≤ c) (hB : Byt l) (hl : l.length ≤ 140737488355328) (hi : i ≤ 140737488355328) (hk : atL l i = 2) (hv : atL l ((i : Int) + 8) ≠ 1) :
    Calls Try.prog 43 #[.slice a l.length c, .int .i64 i] w (ReadPost w (readN l i)) := by
  have HAT := Lib.hid (fun (j : Int) (W : World) (hm : Mod [] w W) => refAt_any _ l j W (h.kept0 hm) hB hl)
  have HSP := Lib.hid (fun (W : World) (hm : Mod [] w W) => refSpan2_any _ l ((i : Int) + 2) W (h.kept0 hm) hB hl (by omega) (by omega))
  have HE := Lib.hid (show readN l i = ({ DoR.zero with k := 2, f := atL l (i + 1), a := spanA l (i + 2), b := spanA l (i + 5), vk := atL l ((i : Int) + 8) }, i + 9) by
    unfold readN
    simp only [hk, hv, if_false]
    rfl)
  have hx := atL_byt hB ((i : Int) + 8)
  have H0 := Lib.hid (fun W hm => by have := HAT.out (i : Int) W hm; rwa [hk] at this)
  have H1 := Lib.hid (fun W hm => HAT.out ((i : Int) + 1) W hm)
  have H8 := Lib.hid (fun W hm => by have := HAT.out ((i : Int) + 8) W hm; rwa [show (i : Int) + 8 = (i : Int) + 2 + 6 by omega] at this)
  rw [show (i : Int) + 8 = (i : Int) + 2 + 6 by omega] at hv HE hx
  rw [show (i : Int) + 2 + 3 = (i : Int) + 5 by omega] at HSP
  generalize atL l ((i : Int) + 1) = f at *
  generalize spanA l ((i : Int) + 2) = A at *
  generalize spanA l ((i : Int) + 5) = B at *
  generalize atL l ((i : Int) + 2 + 6) = vk at *
  have k1 : (vk == 1) = false := by simpa using hv
  clear h hB hk HAT hv
  go_enter Try.func43, Try.ntmps43
  go_wp2_with fail
  refine (H0.out _ (((Mod.refl [] w).alloc _))).mono ?_
  rintro e w1 ⟨rfl, rfl⟩
  go_wp2_with fail
  refine (H1.out _ ((((Mod.refl [] w).alloc _).alloc _))).mono ?_
  rintro e w1 ⟨rfl, rfl⟩
  go_wp2_with fail
  refine (HSP.out _ ((((Mod.refl [] w).alloc _).alloc _))).mono ?_
  rintro e w1 ⟨rfl, rfl⟩
  go_wp2_with fail
  refine (H8.out _ (((((Mod.refl [] w).alloc _).alloc _).alloc _))).mono ?_
  rintro e w1 ⟨rfl, rfl⟩
  go_wp2_with fail
  refine bodyPost_ret (v := .tuple #[.agg #[.int .u8 2, .int .i64 f, .string ⟨#[]⟩, .int .u8 0, .int .i64 A, .int .i64 B, .int .u8 vk, .int .i64 0, .int .i64 0, .int .i64 0, .string ⟨#[]⟩], .int .i64 ((i : Int) + 2 + 7)]) (by simp [results, Try.results43, go_sem]) rfl ⟨?_, (((Mod.refl [] w).alloc _).alloc _).alloc _⟩
  rw [HE.out]
  simp [DoR.cells, DoR.zero, noStr]
  omega
set_option maxHeartbeats 8000000 in
theorem refRead_2v (a : Option Addr) (c : Nat) (l : List Int) (i : Nat) (w : World) (h : BytesAt w (.slice a l.length c) l) (hcap : l.length ≤ c) (hB : Byt l) (hl : l.length ≤ 140737488355328) (hi : i ≤ 140737488355328) (hk : atL l i = 2) (hv : atL l ((i : Int) + 8) = 1) :
    Calls Try.prog 43 #[.slice a l.length c, .int .i64 i] w (ReadPost w (readN l i)) := by
  have HAT := Lib.hid (fun (j : Int) (W : World) (hm : Mod [] w W) => refAt_any _ l j W (h.kept0 hm) hB hl)
  have HSP := Lib.hid (fun (W : World) (hm : Mod [] w W) => refSpan2_any _ l ((i : Int) + 2) W (h.kept0 hm) hB hl (by omega) (by omega))
  have HE := Lib.hid (show readN l i = ({ DoR.zero with k := 2, f := atL l (i + 1), a := spanA l (i + 2), b := spanA l (i + 5), vk := 1, c := i64of (rn l ((i : Int) + 9) 8), s := atL l ((i : Int) + 17) }, i + 18) by
    unfold readN
    simp only [hk, hv, if_true]
    rfl)
  have hx := atL_byt hB ((i : Int) + 8)
  have H0 := Lib.hid (fun W hm => by have := HAT.out (i : Int) W hm; rwa [hk] at this)
  have H1 := Lib.hid (fun W hm => HAT.out ((i : Int) + 1) W hm)
  have H8 := Lib.hid (fun W hm => by have := HAT.out ((i : Int) + 8) W hm; rwa [show (i : Int) + 8 = (i : Int) + 2 + 6 by omega] at this)
  rw [show (i : Int) + 8 = (i : Int) + 2 + 6 by omega] at hv
  rw [show (i : Int) + 2 + 3 = (i : Int) + 5 by omega] at HSP
  generalize atL l ((i : Int) + 1) = f at *
  generalize spanA l ((i : Int) + 2) = A at *
  generalize spanA l ((i : Int) + 5) = B at *
  rw [hv] at H8
  have hR := rn_in hB ((i : Int) + 9) 8
  have HW := Lib.hid (wrap_i64 _ hR.1 (by have := hR.2; simpa using this))
  have H9 := Lib.hid (fun (j : Nat) W hm => HAT.out ((i : Int) + 9 + (j : Nat)) W hm)
  have H17 := Lib.hid (fun W hm => HAT.out ((i : Int) + 17) W hm)
  have hs := atL_byt hB ((i : Int) + 17)
  generalize atL l ((i : Int) + 17) = s at *
  have HRN := Lib.hid (fun n => rn_in hB ((i : Int) + 9) n)
  have HRS := Lib.hid (fun n => rn_succ l ((i : Int) + 9) n)
  have HAB := Lib.hid (fun j => atL_byt hB j)
  clear h hB hk HAT hv hR hx
  go_enter Try.func43, Try.ntmps43
  go_wp2_with fail
  refine (H0.out _ (((Mod.refl [] w).alloc _))).mono ?_
  rintro e w1 ⟨rfl, rfl⟩
  go_wp2_with fail
  refine (H1.out _ ((((Mod.refl [] w).alloc _).alloc _))).mono ?_
  rintro e w1 ⟨rfl, rfl⟩
  go_wp2_with fail
  refine (HSP.out _ ((((Mod.refl [] w).alloc _).alloc _))).mono ?_
  rintro e w1 ⟨rfl, rfl⟩
  go_wp2_with fail
  refine (H8.out _ (((((Mod.refl [] w).alloc _).alloc _).alloc _))).mono ?_
  rintro e w1 ⟨rfl, rfl⟩
  go_wp2_with fail
  go_loopw [8, 9] (fun s8 s9 wr => ∃ n : Nat, n ≤ 8 ∧ s9 = .int .i64 n ∧ s8 = .int .u64 (rn l ((i : Int) + 9) n) ∧ wr = ((w.alloc (.cells #[.int .u8 0, .int .i64 0, .string ⟨#[]⟩, .int .u8 0, .int .i64 0, .int .i64 0, .int .u8 0, .int .i64 0, .int .i64 0, .int .i64 0, .string ⟨#[]⟩] 78)).alloc (.cells #[.int .u8 2, .int .i64 f, .string ⟨#[]⟩, .int .u8 0, .int .i64 A, .int .i64 B, .int .u8 1, .int .i64 0, .int .i64 0, .int .i64 0, .string ⟨#[]⟩] 78)).alloc (.cells #[.int .i64 A, .int .i64 B] 52)) (fun _ s9 _ => 8 - (intOf s9).toNat)
  case atStart => exact ⟨0, by omega, rfl, rfl, rfl⟩
  case round =>
    obtain ⟨n, hn, rfl, rfl, rfl⟩ := hrel
    by_cases hlt : n < 8
    · have h2 := HRN.out n
      have h3 := HAB.out ((i : Int) + 9 + (n : Nat))
      have hp : (256 : Int) ^ n ≤ 72057594037927936 := by
        have : n = 0 ∨ n = 1 ∨ n = 2 ∨ n = 3 ∨ n = 4 ∨ n = 5 ∨ n = 6 ∨ n = 7 := by omega
        rcases this with rfl | rfl | rfl | rfl | rfl | rfl | rfl | rfl <;> decide
      have HX := Lib.hid (H9.out n)
      have HS := Lib.hid (HRS.out n)
      have h20 := h2.1
      have h21 : rn l ((i : Int) + 9) n < 72057594037927936 := by have := h2.2; omega
      clear h2 hp
      generalize atL l ((i : Int) + 9 + (n : Nat)) = x at *
      generalize hR : rn l ((i : Int) + 9) n = R at *
      clear hR
      rw [show (i : Int) + 9 + (n : Nat) = (i : Int) + 2 + 7 + n by omega] at HX
      go_wp2_with fail
      refine (HX.out _ ((((Mod.refl [] w).alloc _).alloc _).alloc _)).mono ?_
      rintro e w1 ⟨rfl, rfl⟩
      go_wp2_with fail
      go_roundw
      case rel => exact ⟨n + 1, by omega, by go_num, by rw [HS.out], trivial⟩
      case measure => simp [intOf]; omega
    · obtain rfl : n = 8 := by omega
      generalize rn l ((i : Int) + 9) 8 = c at *
      rw [show (i : Int) + 17 = (i : Int) + 2 + 7 + 8 by omega] at H17
      have HW2 : wrap64 c = i64of c := by have h := HW.out; rw [IntKind.wrap_i64] at h; simpa [wrap64] using h
      go_wp2_with fail
      refine (H17.out _ ((((Mod.refl [] w).alloc _).alloc _).alloc _)).mono ?_
      rintro e w1 ⟨rfl, rfl⟩
      go_wp2_with fail
      refine bodyPost_ret (v := .tuple #[.agg #[.int .u8 2, .int .i64 f, .string ⟨#[]⟩, .int .u8 0, .int .i64 A, .int .i64 B, .int .u8 1, .int .i64 (i64of c), .int .i64 s, .int .i64 0, .string ⟨#[]⟩], .int .i64 ((i : Int) + 2 + 7 + 9)]) (by simp [results, Try.results43, go_sem, HW2]) rfl ⟨?_, (((Mod.refl [] w).alloc _).alloc _).alloc _⟩
      rw [HE.out]
      simp [DoR.cells, DoR.zero, noStr]
      omega
theorem refRead_any (a : Option Addr) (c : Nat) (l : List Int) (i : Nat) (w : World) (h : BytesAt w (.slice a l.length c) l) (hcap : l.length ≤ c) (hB : Byt l) (hl : l.length ≤ 140737488355328) (hi : i ≤ 140737488355328) :
    Calls Try.prog 43 #[.slice a l.length c, .int .i64 i] w (ReadPost w (readN l i)) := by
  by_cases h1 : atL l i = 1
  · exact refRead_1 a c l i w h hcap hB hl hi h1
  by_cases h2 : atL l i = 2
  · by_cases hv : atL l ((i : Int) + 8) = 1
    · exact refRead_2v a c l i w h hcap hB hl hi h2 hv
    · exact refRead_2o a c l i w h hcap hB hl hi h2 hv
  by_cases h3 : atL l i = 3
  · exact refRead_3 a c l i w h hcap hB hl hi h3
  by_cases h4 : atL l i = 4 ∨ atL l i = 6
  · exact refRead_4 a c l i w h hcap hB hl hi h4
  · exact refRead_o a c l i w h hcap hB hl hi ⟨h1, h2, h3, fun h => h4 (.inl h), fun h => h4 (.inr h)⟩
end Go.Proofs.Ytnoookcfacmdkaa
namespace Go.Proofs.Ytnoookcfacmdkaa
set_option linter.unusedSimpArgs false
set_option linter.unusedVariables false

def readDs (l : List Int) : Nat → Nat → List DoR
  | 0, _ => []
  | n + 1, i => if i ≤ l.length then (readN l i).1 :: readDs l n (readN l i).2 else []
def readR (l : List Int) : RecR :=
  if atL l 0 = 1 then ⟨1, readDs l (atL l 1).toNat 2, 0, 0⟩ else ⟨atL l 0, [], spanA l 1, spanA l 4⟩
def refDecodeR (l : List Int) : Option RecR := if (readR l).may = true ∧ (readR l).enc = l then some (readR l) else none
theorem atL_range (l : List Int) (i m : Nat) (h : i + m ≤ l.length) : (l.drop i).take m = (List.range m).map fun (j : Nat) => atL l ((i : Int) + (j : Nat)) := by
  apply List.ext_getElem
  · simp; omega
  · intro n h1 h2
    simp at h1 h2
    simp only [List.getElem_take, List.getElem_drop, List.getElem_map, List.getElem_range]
    rw [show (i : Int) + (n : Int) = ((i + n : Nat) : Int) by omega, atL_nat]
    simp [List.getD, show i + n < l.length by omega]
theorem pNum_at {l : List Int} {i m : Nat} {n : Int} {r : List Int} (hi : i ≤ l.length) (h : pNum m (l.drop i) = some (n, r)) :
    i + m ≤ l.length ∧ n = readNum ((List.range m).map fun (j : Nat) => atL l ((i : Int) + (j : Nat))) ∧ r = l.drop (i + m) := by
  obtain ⟨h1, h2, h3⟩ := pNum_some h
  rw [List.length_drop] at h1
  have h4 : i + m ≤ l.length := by omega
  refine ⟨h4, ?_, ?_⟩
  · rw [h2, atL_range l i m h4]
  · rw [h3, List.drop_drop]
theorem pNum1_at {l : List Int} {i : Nat} {n : Int} {r : List Int} (hi : i ≤ l.length) (h : pNum 1 (l.drop i) = some (n, r)) :
    i + 1 ≤ l.length ∧ n = atL l i ∧ r = l.drop (i + 1) := by
  obtain ⟨h1, h2, h3⟩ := pNum_at hi h
  exact ⟨h1, by simpa [readNum] using h2, h3⟩
theorem pNum2_at {l : List Int} {i : Nat} {n : Int} {r : List Int} (hi : i ≤ l.length) (h : pNum 2 (l.drop i) = some (n, r)) :
    i + 2 ≤ l.length ∧ n = atL l i * 256 + atL l ((i : Int) + 1) ∧ r = l.drop (i + 2) := by
  obtain ⟨h1, h2, h3⟩ := pNum_at hi h
  exact ⟨h1, by simpa [readNum, List.range_succ] using h2, h3⟩
theorem pNum3_at {l : List Int} {i : Nat} {n : Int} {r : List Int} (hi : i ≤ l.length) (h : pNum 3 (l.drop i) = some (n, r)) :
    i + 3 ≤ l.length ∧ n = spanA l i ∧ r = l.drop (i + 3) := by
  obtain ⟨h1, h2, h3⟩ := pNum_at hi h
  refine ⟨h1, ?_, h3⟩
  rw [h2]
  simp [readNum, List.range_succ, spanA]
  omega
theorem pSpan_at {l : List Int} {i : Nat} {x : Int × Int} {r : List Int} (hi : i ≤ l.length) (h : pSpan (l.drop i) = some (x, r)) :
    i + 6 ≤ l.length ∧ x = (spanA l i, spanA l ((i : Int) + 3)) ∧ r = l.drop (i + 6) := by
  unfold pSpan at h
  cases e1 : pNum 3 (l.drop i) with
  | none => rw [e1] at h; cases h
  | some y =>
    obtain ⟨a, r1⟩ := y
    rw [e1] at h
    obtain ⟨g1, g2, g3⟩ := pNum3_at hi e1
    subst g3
    dsimp only at h
    cases e2 : pNum 3 (l.drop (i + 3)) with
    | none => rw [e2] at h; cases h
    | some z =>
      obtain ⟨b, r2⟩ := z
      rw [e2] at h
      obtain ⟨k1, k2, k3⟩ := pNum3_at g1 e2
      simp at h
      obtain ⟨rfl, rfl⟩ := h
      exact ⟨by omega, by rw [g2, k2]; simp, by rw [k3]⟩
theorem pText_at {l : List Int} {i m : Nat} {x : ByteArray} {r : List Int} (hi : i ≤ l.length) (hB : Byt l) (h : pText m (l.drop i) = some (x, r)) :
    ∃ n : Nat, (n : Int) = readNum ((List.range m).map fun (j : Nat) => atL l ((i : Int) + (j : Nat))) ∧ i + m + n ≤ l.length ∧ x = strOfNums ((l.drop (i + m)).take n) ∧ r = l.drop (i + m + n) := by
  unfold pText at h
  cases e1 : pNum m (l.drop i) with
  | none => rw [e1] at h; cases h
  | some y =>
    obtain ⟨a, r1⟩ := y
    rw [e1] at h
    obtain ⟨g1, g2, g3⟩ := pNum_at hi e1
    have ha := (pNum_byt (hB.drop i) e1).1
    subst g3
    dsimp only at h
    cases e2 : tk a (l.drop (i + m)) with
    | none => rw [e2] at h; cases h
    | some z =>
      obtain ⟨b, r2⟩ := z
      rw [e2] at h
      obtain ⟨k1, k2, k3⟩ := tk_some e2
      rw [List.length_drop] at k1
      simp at h
      obtain ⟨rfl, rfl⟩ := h
      refine ⟨a.toNat, by rw [← g2]; omega, by omega, by rw [k2], ?_⟩
      rw [k3, List.drop_drop]
/-- What reads with care and finds one, reads as what reads without. -/
theorem pDo_at {l : List Int} {i : Nat} {d : DoR} {r : List Int} (hi : i ≤ l.length) (hB : Byt l) (h : pDo (l.drop i) = some (d, r)) :
    ∃ j, j ≤ l.length ∧ readN l i = (d, j) ∧ r = l.drop j := by
  unfold pDo at h
  cases e1 : pNum 1 (l.drop i) with
  | none => rw [e1] at h; cases h
  | some y =>
    obtain ⟨k, r1⟩ := y
    rw [e1] at h
    obtain ⟨g1, g2, g3⟩ := pNum1_at hi e1
    subst g2 g3
    dsimp only at h
    unfold readN
    by_cases k1 : atL l i = 1
    · rw [if_pos k1] at h
      cases e2 : pText 1 (l.drop (i + 1)) with
      | none => rw [e2] at h; cases h
      | some z =>
        obtain ⟨nm, r2⟩ := z
        rw [e2] at h
        obtain ⟨n, n1, n2, n3, n4⟩ := pText_at g1 hB e2
        subst n4
        dsimp only at h
        cases e3 : pNum 1 (l.drop (i + 1 + 1 + n)) with
        | none => rw [e3] at h; cases h
        | some u =>
          obtain ⟨fk, r3⟩ := u
          rw [e3] at h
          obtain ⟨m1, m2, m3⟩ := pNum1_at n2 e3
          simp at h
          obtain ⟨rfl, rfl⟩ := h
          have hn : atL l ((i : Int) + 1) = n := by rw [n1]; simp [readNum]
          refine ⟨i + 1 + 1 + n + 1, m1, ?_, m3⟩
          simp only [k1, if_true]
          rw [hn, m2, n3]
          simp [show (i : Int) + 1 + 1 + n = (i : Int) + 2 + n by omega]
          omega
    · rw [if_neg k1] at h
      simp only [if_neg k1]
      cases e2 : pNum 1 (l.drop (i + 1)) with
      | none => rw [e2] at h; cases h
      | some z =>
        obtain ⟨f, r2⟩ := z
        rw [e2] at h
        obtain ⟨n1, n2, n3⟩ := pNum1_at g1 e2
        subst n2 n3
        dsimp only at h
        by_cases k2 : atL l i = 2
        · rw [if_pos k2] at h
          simp only [if_pos k2]
          cases e3 : pSpan (l.drop (i + 1 + 1)) with
          | none => rw [e3] at h; cases h
          | some u =>
            obtain ⟨x, r3⟩ := u
            rw [e3] at h
            obtain ⟨m1, m2, m3⟩ := pSpan_at n1 e3
            subst m2 m3
            dsimp only at h
            unfold pVal at h
            cases e4 : pNum 1 (l.drop (i + 1 + 1 + 6)) with
            | none => rw [e4] at h; cases h
            | some v =>
              obtain ⟨vk, r4⟩ := v
              rw [e4] at h
              obtain ⟨o1, o2, o3⟩ := pNum1_at m1 e4
              subst o2 o3
              dsimp only at h
              have c8 : atL l ((i + 1 + 1 + 6 : Nat) : Int) = atL l ((i : Int) + 8) := by rw [show ((i + 1 + 1 + 6 : Nat) : Int) = (i : Int) + 8 by omega]
              rw [c8] at h
              by_cases hv : atL l ((i : Int) + 8) = 1
              · rw [if_pos hv] at h
                rw [if_pos hv]
                cases e5 : pNum 8 (l.drop (i + 1 + 1 + 6 + 1)) with
                | none => rw [e5] at h; cases h
                | some u =>
                  obtain ⟨c, r5⟩ := u
                  rw [e5] at h
                  obtain ⟨q1, q2, q3⟩ := pNum_at o1 e5
                  subst q2 q3
                  dsimp only at h
                  cases e6 : pNum 1 (l.drop (i + 1 + 1 + 6 + 1 + 8)) with
                  | none => rw [e6] at h; cases h
                  | some u =>
                    obtain ⟨sc, r6⟩ := u
                    rw [e6] at h
                    obtain ⟨t1, t2, t3⟩ := pNum1_at q1 e6
                    simp only [Option.some.injEq, Prod.mk.injEq] at h
                    obtain ⟨rfl, rfl⟩ := h
                    refine ⟨i + 18, by omega, ?_, by rw [t3]⟩
                    rw [t2, hv, k2]
                    rfl
              · rw [if_neg hv] at h
                rw [if_neg hv]
                simp only [Option.some.injEq, Prod.mk.injEq] at h
                obtain ⟨rfl, rfl⟩ := h
                refine ⟨i + 9, by omega, ?_, rfl⟩
                rw [k2]
                rfl
        · simp only [if_neg k2] at h ⊢
          by_cases k3 : atL l i = 3
          · rw [if_pos k3] at h
            rw [if_pos k3]
            cases e3 : pSpan (l.drop (i + 1 + 1)) with
            | none => rw [e3] at h; cases h
            | some u =>
              obtain ⟨x, r3⟩ := u
              rw [e3] at h
              obtain ⟨m1, m2, m3⟩ := pSpan_at n1 e3
              simp only [Option.some.injEq, Prod.mk.injEq] at h
              obtain ⟨rfl, rfl⟩ := h
              refine ⟨i + 8, by omega, ?_, by rw [m3]⟩
              rw [m2, k3]
              rfl
          · simp only [if_neg k3] at h ⊢
            by_cases k4 : atL l i = 4 ∨ atL l i = 6
            · rw [if_pos k4] at h
              rw [if_pos k4]
              cases e3 : pText 2 (l.drop (i + 1 + 1)) with
              | none => rw [e3] at h; cases h
              | some u =>
                obtain ⟨t, r3⟩ := u
                rw [e3] at h
                obtain ⟨n, q1, q2, q3, q4⟩ := pText_at n1 hB e3
                simp only [Option.some.injEq, Prod.mk.injEq] at h
                obtain ⟨rfl, rfl⟩ := h
                have hn : atL l ((i : Int) + 2) * 256 + atL l ((i : Int) + 3) = n := by
                  rw [q1]
                  simp [readNum, List.range_succ]
                  rw [show (i : Int) + 1 + 1 + 1 = (i : Int) + 3 by omega, show (i : Int) + 1 + 1 = (i : Int) + 2 by omega]
                rw [hn]
                refine ⟨i + 1 + 1 + 2 + n, q2, ?_, q4⟩
                rw [q3]
                simp
            · rw [if_neg k4] at h
              rw [if_neg k4]
              simp only [Option.some.injEq, Prod.mk.injEq] at h
              obtain ⟨rfl, rfl⟩ := h
              exact ⟨i + 2, by omega, rfl, rfl⟩
theorem pDos_at {l : List Int} (hB : Byt l) : ∀ (n i : Nat) {ds : List DoR} {r : List Int}, i ≤ l.length → pDos n (l.drop i) = some (ds, r) → readDs l n i = ds
  | 0, i, ds, r, hi, h => by
    simp [pDos] at h
    simp [readDs, h.1]
  | n + 1, i, ds, r, hi, h => by
    unfold pDos at h
    cases e1 : pDo (l.drop i) with
    | none => rw [e1] at h; cases h
    | some y =>
      obtain ⟨d, r1⟩ := y
      rw [e1] at h
      obtain ⟨j, g1, g2, g3⟩ := pDo_at hi hB e1
      subst g3
      dsimp only at h
      cases e2 : pDos n (l.drop j) with
      | none => rw [e2] at h; cases h
      | some z =>
        obtain ⟨ds', r2⟩ := z
        rw [e2] at h
        simp only [Option.some.injEq, Prod.mk.injEq] at h
        obtain ⟨rfl, rfl⟩ := h
        rw [readDs, if_pos hi, g2, pDos_at hB n j g1 e2]
theorem pRec_at {l : List Int} (hB : Byt l) {x : RecR} {r : List Int} (h : pRec l = some (x, r)) : readR l = x := by
  unfold pRec at h
  have h0 : pNum 1 l = pNum 1 (l.drop 0) := by rw [List.drop_zero]
  rw [h0] at h
  cases e1 : pNum 1 (l.drop 0) with
  | none => rw [e1] at h; cases h
  | some y =>
    obtain ⟨k, r1⟩ := y
    rw [e1] at h
    obtain ⟨g1, g2, g3⟩ := pNum1_at (Nat.zero_le _) e1
    subst g2 g3
    dsimp only at h
    unfold readR
    by_cases k1 : atL l 0 = 1
    · rw [if_pos k1]
      rw [if_pos (by simpa using k1)] at h
      cases e2 : pNum 1 (l.drop (0 + 1)) with
      | none => rw [e2] at h; cases h
      | some z =>
        obtain ⟨n, r2⟩ := z
        rw [e2] at h
        obtain ⟨n1, n2, n3⟩ := pNum1_at g1 e2
        subst n2 n3
        dsimp only at h
        cases e3 : pDos (atL l ((0 + 1 : Nat) : Int)).toNat (l.drop (0 + 1 + 1)) with
        | none => rw [e3] at h; cases h
        | some u =>
          obtain ⟨ds, r3⟩ := u
          rw [e3] at h
          simp only [Option.some.injEq, Prod.mk.injEq] at h
          obtain ⟨rfl, rfl⟩ := h
          have := pDos_at hB _ _ n1 e3
          rw [show (atL l 0) = atL l ((0 : Nat) : Int) from rfl] at k1
          rw [k1, ← this]
          rfl
    · rw [if_neg k1]
      rw [if_neg (by simpa using k1)] at h
      cases e2 : pSpan (l.drop (0 + 1)) with
      | none => rw [e2] at h; cases h
      | some z =>
        obtain ⟨x, r2⟩ := z
        rw [e2] at h
        obtain ⟨n1, n2, n3⟩ := pSpan_at g1 e2
        simp only [Option.some.injEq, Prod.mk.injEq] at h
        obtain ⟨rfl, rfl⟩ := h
        rw [n2]
        rfl
theorem readN_wf {l : List Int} (hB : Byt l) (i : Nat) : (readN l i).1.Wf := by
  have hk := atL_byt hB i
  have h8 := atL_byt hB ((i : Int) + 8)
  have hfk := atL_byt hB ((i : Int) + 2 + atL l ((i : Int) + 1))
  unfold readN
  dsimp only
  split
  · exact ⟨by simp [DoR.zero], by simp [DoR.zero], hfk.1, hfk.2, by simp [DoR.zero], by simp [DoR.zero], by simp [DoR.zero], by simp [DoR.zero]⟩
  split
  · split
    · have hR := rn_in hB ((i : Int) + 9) 8
      have hc := i64of_in hR.1 (by have := hR.2; simpa using this)
      exact ⟨by simp [DoR.zero], by simp [DoR.zero], by simp [DoR.zero], by simp [DoR.zero], by simp [DoR.zero], by simp [DoR.zero], hc.1, hc.2⟩
    · exact ⟨by simp [DoR.zero], by simp [DoR.zero], by simp [DoR.zero], by simp [DoR.zero], h8.1, h8.2, by simp [DoR.zero], by simp [DoR.zero]⟩
  split
  · exact ⟨by simp [DoR.zero], by simp [DoR.zero], by simp [DoR.zero], by simp [DoR.zero], by simp [DoR.zero], by simp [DoR.zero], by simp [DoR.zero], by simp [DoR.zero]⟩
  split
  · exact ⟨hk.1, hk.2, by simp [DoR.zero], by simp [DoR.zero], by simp [DoR.zero], by simp [DoR.zero], by simp [DoR.zero], by simp [DoR.zero]⟩
  · exact ⟨hk.1, hk.2, by simp [DoR.zero], by simp [DoR.zero], by simp [DoR.zero], by simp [DoR.zero], by simp [DoR.zero], by simp [DoR.zero]⟩
theorem readDs_wf {l : List Int} (hB : Byt l) : ∀ (n i : Nat), ∀ d ∈ readDs l n i, d.Wf
  | 0, i, d, hd => by simp [readDs] at hd
  | n + 1, i, d, hd => by
    unfold readDs at hd
    split at hd
    · rcases List.mem_cons.1 hd with rfl | hd
      · exact readN_wf hB i
      · exact readDs_wf hB n _ d hd
    · cases hd
theorem readR_wf {l : List Int} (hB : Byt l) : (readR l).Wf := by
  have := atL_byt hB 0
  unfold readR
  split
  · exact ⟨⟨by simp, by simp⟩, readDs_wf hB _ _⟩
  · exact ⟨this, fun d hd => by cases hd⟩
/-- THE PLAIN LAW: the document's Decode answers as the program's. -/
theorem refDecodeR_eq {l : List Int} (hB : Byt l) : refDecodeR l = decodeR l := by
  unfold refDecodeR
  split
  · rename_i h
    have := decodeR_enc (readR l) (readR_wf hB) h.1
    rw [h.2] at this
    exact this.symm
  · rename_i h
    cases e : decodeR l with
    | none => rfl
    | some r =>
      obtain ⟨t, h1, h2, h3⟩ := decodeR_some e
      rw [pRec_at hB h1] at h
      exact absurd ⟨h2, h3⟩ h
theorem readN_place {l : List Int} (hB : Byt l) (i : Nat) : (readN l i).2 ≤ i + 65600 := by
  have h1 := atL_byt hB ((i : Int) + 1)
  have h2 := atL_byt hB ((i : Int) + 2)
  have h3 := atL_byt hB ((i : Int) + 3)
  unfold readN
  dsimp only
  split
  · dsimp only; omega
  split
  · split <;> (dsimp only; omega)
  split
  · dsimp only; omega
  split <;> (dsimp only; omega)
theorem readDs_length (l : List Int) : ∀ n i, (readDs l n i).length ≤ n
  | 0, i => by simp [readDs]
  | n + 1, i => by
    unfold readDs
    split
    · have := readDs_length l n (readN l i).2
      simp; omega
    · simp
end Go.Proofs.Ytnoookcfacmdkaa
namespace Go.Proofs.Ytnoookcfacmdkaa
open Go.RowKit Go.ChangeMaps Go.Deep
set_option linter.unusedSimpArgs false
set_option linter.unusedVariables false
set_option maxRecDepth 20000

/-- what the document's Decode gives for bytes that are read as this -/
def RefDec (w : World) (o : Option RecR) (e : Ending) (w' : World) : Prop :=
  match o with
  | some r => ∃ v, e = .returned (.tuple #[recV r v, .int .i64 0]) ∧ DosAt w' v r.ds ∧ Mod [] w w' ∧ ∀ k, v.ownBlock = some k → w.heap.size ≤ k
  | none => e = .returned (.tuple #[recV RecR.zero (.slice none 0 0), .int .i64 4]) ∧ Mod [] w w'
/-- where it stands behind its reading -/
structure RSt (w W : World) (r : RecR) (v : Value) : Prop where
  out : W.heap[w.heap.size]? = some (.cells #[.int .u8 0, .slice none 0 0, .int .i64 0, .int .i64 0] 54 (0, 0))
  box : W.heap[w.heap.size + 1]? = some (.cells #[.int .u8 r.k, v, .int .i64 r.a, .int .i64 r.b] 54 (0, 0))
  dos : DosAt W v r.ds
  mod : Mod [] w W
  own : ∀ k, v.ownBlock = some k → w.heap.size + 2 ≤ k
theorem RSt.kept {w W W' : World} {r : RecR} {v : Value} (h : RSt w W r v) (m : Mod [] W W') : RSt w W' r v :=
  ⟨m.heap h.out (by simp), m.heap h.box (by simp), h.dos.kept0 m, h.mod.trans m, h.own⟩
theorem RSt.form {w W : World} {r : RecR} {v : Value} (h : RSt w W r v) : ∃ a c, v = .slice a r.ds.length c := by
  obtain ⟨a, c, rfl, _⟩ := h.dos
  exact ⟨a, c, rfl⟩
theorem RSt.no {w W : World} {r : RecR} {v : Value} (h : RSt w W r v) :
    ∃ W', (Instr.storeAt 54 (.pointer (some ⟨w.heap.size, 0, none⟩)) (.agg #[.int .u8 0, .slice none 0 0, .int .i64 0, .int .i64 0])).run Try.prog W = .ok () W' ∧ W'.heap[w.heap.size]? = some (.cells #[.int .u8 0, .slice none 0 0, .int .i64 0, .int .i64 0] 54 (0, 0)) ∧ Mod [] w W' := by
  obtain ⟨w5, hst, hm5, hb5⟩ := store_ret (c := #[.int .u8 0, .slice none 0 0, .int .i64 0, .int .i64 0]) 54 h.out rfl sizeRecord (by simp [Value.oneCell'])
  exact ⟨w5, hst, hb5, h.mod.intoNil hm5 (by simp)⟩
theorem RSt.yes {w W : World} {r : RecR} {v : Value} (h : RSt w W r v) :
    ∃ W', (Instr.storeAt 54 (.pointer (some ⟨w.heap.size, 0, none⟩)) (.agg #[.int .u8 r.k, v, .int .i64 r.a, .int .i64 r.b])).run Try.prog W = .ok () W' ∧ W'.heap[w.heap.size]? = some (.cells #[.int .u8 r.k, v, .int .i64 r.a, .int .i64 r.b] 54 (0, 0)) ∧ DosAt W' v r.ds ∧ Mod [] w W' := by
  obtain ⟨a, c, hv⟩ := h.form
  obtain ⟨w5, hst, hm5, hb5⟩ := store_ret (c := #[.int .u8 r.k, v, .int .i64 r.a, .int .i64 r.b]) 54 h.out rfl sizeRecord (by subst hv; simp [Value.oneCell'])
  refine ⟨w5, hst, hb5, ?_, h.mod.intoNil hm5 (by simp)⟩
  refine h.dos.kept hm5 fun hn k hk => ?_
  rw [List.mem_singleton] at hk
  subst hk
  intro bb o n c e
  subst e
  have := h.own bb (by simp [Value.ownBlock])
  omega
theorem str_yes {a b : List Int} (h : a = b) : (!(@BEq.beq (List UInt8) (@List.instBEq UInt8 instBEqOfDecidableEq) (strOfNums a).toList (strOfNums b).toList)) = false := by rw [h, beq_self_eq_true]; rfl
theorem str_no {a b : List Int} (ha : Byt a) (hb : Byt b) (h : a ≠ b) : (!(@BEq.beq (List UInt8) (@List.instBEq UInt8 instBEqOfDecidableEq) (strOfNums a).toList (strOfNums b).toList)) = true := by
  rw [Bool.not_eq_true']
  exact beq_eq_false_iff_ne.2 fun e => h (by
  rw [ByteArray.toList_eq, ByteArray.toList_eq] at e
  rw [← str_inj ha hb]
  exact ByteArray.ext (Array.ext' e))
end Go.Proofs.Ytnoookcfacmdkaa
namespace Go.Proofs.Ytnoookcfacmdkaa
open Go.RowKit Go.ChangeMaps Go.Deep
set_option linter.unusedSimpArgs false
set_option linter.unusedVariables false
set_option maxRecDepth 20000

set_option maxHeartbeats 4000000 in
theorem refDec_span (a : Option Addr) (c : Nat) (l : List Int) (w : World) (h : BytesAt w (.slice a l.length c) l) (hB : Byt l) (hl : l.length ≤ 140737488355328) (hk : atL l 0 ≠ 1) :
    Calls Try.prog 26 #[.slice a l.length c] w (RefDec w (refDecodeR l)) := by
  have HAT := Lib.hid (fun (j : Int) (W : World) (hm : Mod [] w W) => refAt_any _ l j W (h.kept0 hm) hB hl)
  have HSP := Lib.hid (fun (W : World) (hm : Mod [] w W) => refSpan2_any _ l 1 W (h.kept0 hm) hB hl (by omega) (by omega))
  have HBY := Lib.hid hB
  have HSRC := Lib.hid (fun (W : World) (hm : Mod [] w W) => h.kept0 hm)
  have hR : readR l = ⟨atL l 0, [], spanA l 1, spanA l 4⟩ := by unfold readR; rw [if_neg hk]
  have HREAD := Lib.hid hR
  have hk0 := atL_byt hB 0
  have H0 := Lib.hid (fun W hm => HAT.out 0 W hm)
  have k1 : (atL l 0 == 1) = false := by simpa using hk
  rw [show (1 : Int) + 3 = 4 by omega] at HSP
  generalize atL l 0 = k at *
  generalize spanA l 1 = A at *
  generalize spanA l 4 = B at *
  have HFIT : Hid (∀ d ∈ RecR.ds ⟨k, [], A, B⟩, CFit d) := Lib.hid (by simp)
  have S : Hid (RSt w (((w.alloc (.cells #[.int .u8 0, .slice none 0 0, .int .i64 0, .int .i64 0] 54)).alloc (.cells #[.int .u8 k, .slice none 0 0, .int .i64 A, .int .i64 B] 54)).alloc (.cells #[.int .i64 A, .int .i64 B] 52)) ⟨k, [], A, B⟩ (.slice none 0 0)) := Lib.hid (by
    refine ⟨?_, ?_, ⟨none, 0, rfl, fun i d hd => by simp at hd⟩, ((((Mod.refl [] w).alloc _).alloc _).alloc _), by simp [Value.ownBlock]⟩
    · rw [heap_alloc_ne _ _ (by simp; omega), heap_alloc_ne _ _ (by simp)]
      exact heap_alloc_new w _
    · rw [heap_alloc_ne _ _ (by simp)]
      have := heap_alloc_new (w.alloc (.cells #[.int .u8 0, .slice none 0 0, .int .i64 0, .int .i64 0] 54)) (.cells #[.int .u8 k, .slice none 0 0, .int .i64 A, .int .i64 B] 54)
      simpa using this)
  clear h hB hk HAT hR
  go_enter Try.func26, Try.ntmps26
  go_wp2_with fail
  refine (H0.out _ ((Mod.refl [] w).alloc _)).mono ?_
  rintro e w1 ⟨rfl, rfl⟩
  go_wp2_with fail
  refine (HSP.out _ (((Mod.refl [] w).alloc _).alloc _)).mono ?_
  rintro e w1 ⟨rfl, rfl⟩
  have HL := Lib.hid (load_blk (P := Try.prog) 54 S.out.box Try.underlying54 rfl sizeRecord)
  go_wp2_with ((with_reducible refine xLoadAt rfl HL.out ?_ ?_ ?_); exact rfl; exact rfl)
  refine (rmay25_any ⟨k, [], A, B⟩ (.slice none 0 0) _ S.out.dos HFIT.out (by simp)).mono ?_
  rintro e w1 ⟨rfl, m1⟩
  have S1 := Lib.hid (S.out.kept m1)
  clear m1 HL
  by_cases hm : RecR.may ⟨k, [], A, B⟩ = true
  · simp only [hm]
    have S1d := Lib.hid (S1.out.kept ((Mod.refl [] _).drew))
    have HL1 := Lib.hid (load_blk (P := Try.prog) 54 S1d.out.box Try.underlying54 rfl sizeRecord)
    go_wp2_with fail
    refine wp_plan [([0, 3, 4], 1, [4])] [2, 5] (by kernel_rfl) (by kernel_rfl) ?_
    simp only [wpSegs, opsOf, List.map_cons, List.map_nil, opN, List.getD_cons_zero, List.getD_cons_succ]
    have hc1 := conv_bytes (HSRC.out w1.drew S1d.out.mod)
    have HC1 := Lib.hid hc1
    go_wp2_with (first | ((with_reducible refine xLoadAt rfl HL1.out ?_ ?_ ?_); exact rfl; exact rfl) | ((with_reducible refine xConvertAt rfl HC1.out ?_ ?_ ?_); exact rfl; exact rfl))
    refine ⟨by first | trivial | rfl, ?_⟩
    go_wp2_with fail
    refine (refEncode_any ⟨k, [], A, B⟩ (.slice none 0 0) _ S1d.out.dos hm).mono ?_
    rintro e w2 ⟨v2, rfl, o2, m2⟩
    have S2 := Lib.hid (S1d.out.kept m2)
    have hc2 := conv_bytes (HSRC.out w2 S2.out.mod)
    have HC2 := Lib.hid hc2
    have hc3 := conv_bytes o2.bytes
    have HC3 := Lib.hid hc3
    obtain ⟨ea, ec, rfl⟩ := o2.form
    go_wp2_with fail
    refine ⟨?ag1, ?_⟩
    case ag1 =>
      intro i hi hw
      simp only [List.mem_cons, List.not_mem_nil, or_false] at hi
      subst hi
      all_goals (simp only [opN, List.getD_cons_zero, List.getD_cons_succ, slotOf]; go_simp; first | done | exact HC2.out)
    go_wp2_with (first | ((with_reducible refine xConvertAt rfl HC2.out ?_ ?_ ?_); exact rfl; exact rfl) | ((with_reducible refine xConvertAt rfl HC3.out ?_ ?_ ?_); exact rfl; exact rfl))
    refine ⟨by first | trivial | rfl, ?_⟩
    have HLd := Lib.hid (load_blk (P := Try.prog) 54 S2.out.box Try.underlying54 rfl sizeRecord)
    have HBE := Lib.hid (show Byt (RecR.enc ⟨k, [], A, B⟩) from HREAD.out ▸ rec_byt (readR_wf HBY.out))
    by_cases heq : RecR.enc ⟨k, [], A, B⟩ = l
    · have hs := str_yes heq
      simp only [hs]
      have HE := Lib.hid (show refDecodeR l = some ⟨k, [], A, B⟩ by unfold refDecodeR; rw [HREAD.out, if_pos ⟨hm, heq⟩])
      obtain ⟨w5, hst, hb5, hd5, mm5⟩ := S2.out.yes
      have HST := Lib.hid hst
      have HM5 := Lib.hid mm5
      have HD5 := Lib.hid hd5
      have HOWN := Lib.hid S2.out.own
      have p0 := cell_blk hb5 0
      have p1 := cell_blk hb5 1
      have p2 := cell_blk hb5 2
      have p3 := cell_blk hb5 3
      simp only [List.getElem?_toArray, List.getElem?_cons_succ, List.getElem?_cons_zero] at p0 p1 p2 p3
      clear heq hst mm5 hb5 hd5 hc1 hc2 hc3 o2 m2 HC1 HC2 HC3 hm
      go_wp2_with (first | ((with_reducible refine xLoadAt rfl HLd.out ?_ ?_ ?_); exact rfl; exact rfl) | ((with_reducible refine xStoreAt rfl HST.out ?_ ?_ ?_ ?_); exact rfl; exact rfl; exact rfl))
      rw [HE.out]
      exact bodyPost_ret (v := .tuple #[.agg #[.int .u8 k, .slice none 0 0, .int .i64 A, .int .i64 B], .int .i64 0]) (by simp [results, Try.results26, go_sem, p0, p1, p2, p3]) rfl ⟨_, rfl, HD5.out, HM5.out, fun k hk => Nat.le_trans (by omega) (HOWN.out k hk)⟩
    · have hs := str_no HBE.out HBY.out heq
      simp only [hs]
      have HE := Lib.hid (show refDecodeR l = none by unfold refDecodeR; rw [HREAD.out, if_neg (fun h => heq h.2)])
      obtain ⟨w5, hst, hb5, mm5⟩ := S2.out.no
      have HST := Lib.hid hst
      have HM5 := Lib.hid mm5
      have p0 := cell_blk hb5 0
      have p1 := cell_blk hb5 1
      have p2 := cell_blk hb5 2
      have p3 := cell_blk hb5 3
      simp only [List.getElem?_toArray, List.getElem?_cons_succ, List.getElem?_cons_zero] at p0 p1 p2 p3
      clear heq hst mm5 hb5 hc1 hc2 hc3 o2 m2 HC1 HC2 HC3 hm HLd
      go_wp2_with ((with_reducible refine xStoreAt rfl HST.out ?_ ?_ ?_ ?_); exact rfl; exact rfl; exact rfl)
      rw [HE.out]
      exact bodyPost_ret (v := .tuple #[.agg #[.int .u8 0, .slice none 0 0, .int .i64 0, .int .i64 0], .int .i64 4]) (by simp [results, Try.results26, go_sem, p0, p1, p2, p3]) rfl ⟨rfl, HM5.out⟩
  · have hm0 : RecR.may ⟨k, [], A, B⟩ = false := by simpa using hm
    obtain ⟨w5, hst, hb5, mm5⟩ := S1.out.no
    have HST := Lib.hid hst
    have HE := Lib.hid (show refDecodeR l = none by unfold refDecodeR; rw [HREAD.out, if_neg (by simp [hm0])])
    have HM5 := Lib.hid mm5
    have p0 := cell_blk hb5 0
    have p1 := cell_blk hb5 1
    have p2 := cell_blk hb5 2
    have p3 := cell_blk hb5 3
    simp only [List.getElem?_toArray, List.getElem?_cons_succ, List.getElem?_cons_zero] at p0 p1 p2 p3
    simp only [hm0]
    clear hm hst mm5 hb5
    go_wp2_with ((with_reducible refine xStoreAt rfl HST.out ?_ ?_ ?_ ?_); exact rfl; exact rfl; exact rfl)
    rw [HE.out]
    exact bodyPost_ret (v := .tuple #[.agg #[.int .u8 0, .slice none 0 0, .int .i64 0, .int .i64 0], .int .i64 4]) (by simp [results, Try.results26, go_sem, p0, p1, p2, p3]) rfl ⟨rfl, HM5.out⟩
end Go.Proofs.Ytnoookcfacmdkaa
namespace Go.Proofs.Ytnoookcfacmdkaa
open Go.RowKit Go.ChangeMaps Go.Deep
set_option linter.unusedSimpArgs false
set_option linter.unusedVariables false
set_option maxRecDepth 20000

/-- where it stands in its loop -/
def RunSt (w W : World) (ds : List DoR) (v : Value) : Prop := RSt w W ⟨1, ds, 0, 0⟩ v ∧ W.ownsRow (w.heap.size + 2) 78 11 v ds.length (flatD ds)
theorem RunSt.kept {w W W' : World} {ds : List DoR} {v : Value} (h : RunSt w W ds v) (m : Mod [] W W') : RunSt w W' ds v := ⟨h.1.kept m, ownsRow_kept0 h.2 m⟩
theorem run_start (w : World) : RunSt w ((w.alloc (.cells #[.int .u8 0, .slice none 0 0, .int .i64 0, .int .i64 0] 54)).alloc (.cells #[.int .u8 1, .slice none 0 0, .int .i64 0, .int .i64 0] 54)) [] (.slice none 0 0) := by
  refine ⟨⟨?_, ?_, ⟨none, 0, rfl, fun i d hd => by simp at hd⟩, (((Mod.refl [] w).alloc _).alloc _), by simp [Value.ownBlock]⟩, World.ownsRow_nil _ _ _ _⟩
  · rw [heap_alloc_ne _ _ (by simp)]
    exact heap_alloc_new w _
  · have := heap_alloc_new (w.alloc (.cells #[.int .u8 0, .slice none 0 0, .int .i64 0, .int .i64 0] 54)) (.cells #[.int .u8 1, .slice none 0 0, .int .i64 0, .int .i64 0] 54)
    simpa using this
/-- an operation behind the others -/
theorem RunSt.add {w W : World} {ds : List DoR} {v : Value} (h : RunSt w W ds v) (d : DoR) (hl : ds.length ≤ 1000) {g : Nat} (hg : g = W.heap.size) :
    ∃ v' W1 W2, (Builtin.append_ #[50, 50] 50 #[v, .slice (some ⟨g, 0, none⟩) 1 1]).run Try.prog (W.alloc (.cells d.cells.toArray 78)) = .ok v' W1 ∧
      (Instr.storeAt 50 (.pointer (some ⟨w.heap.size + 1, 1, none⟩)) v').run Try.prog W1 = .ok () W2 ∧ RunSt w W2 (ds ++ [d]) v' := by
  have hlt := lt_of_heap h.1.box
  have hown := h.2
  obtain ⟨v6, w6, r6, o6, g6⟩ := app_do hown (by omega) d hl hg
  have hno : ∀ k, k < w.heap.size + 2 → k ∉ blk v := fun k hk hm => by
    rw [mem_blk] at hm
    have := (World.ownsRow.lt hown k hm).1
    omega
  have hb6 := g6.mod.heap h.1.box (hno _ (by omega))
  have ho6 := g6.mod.heap h.1.out (hno _ (by omega))
  obtain ⟨w7, hst, mst, gst⟩ := store_one 50 [.int .u8 1] v [.int .i64 0, .int .i64 0] v6 hb6 (by kernel_rfl) (ownsRow_one_cell o6)
  have o7 := ownsRow_kept o6 mst (fun k hk => by
    have := (World.ownsRow.lt o6 k hk).1
    simp; omega)
  exact ⟨v6, w6, w7, r6, hst, ⟨mst.heap ho6 (by simp), gst, dos_own o7, (g6.intoNil hown (by omega) h.1.mod).intoNil mst (by simp), fun k hk => (World.ownsRow.lt o7 k hk).1⟩, o7⟩
theorem readDs_fit {l : List Int} (hB : Byt l) (n i : Nat) : ∀ d ∈ readDs l n i, CFit d := fun d hd => by
  have := readDs_wf hB n i d hd
  have h1 := this.c0
  have h2 := this.c1
  unfold CFit
  omega
set_option maxHeartbeats 8000000 in
theorem refDec_run (a : Option Addr) (c : Nat) (l : List Int) (w : World) (h : BytesAt w (.slice a l.length c) l) (hcap : l.length ≤ c) (hB : Byt l) (hl : l.length ≤ 140737488355328) (hk : atL l 0 = 1) :
    Calls Try.prog 26 #[.slice a l.length c] w (RefDec w (refDecodeR l)) := by
  have HAT := Lib.hid (fun (j : Int) (W : World) (hm : Mod [] w W) => refAt_any _ l j W (h.kept0 hm) hB hl)
  have HRD := Lib.hid (fun (i : Nat) (W : World) (hm : Mod [] w W) (hi : i ≤ 140737488355328) => refRead_any a c l i W (h.kept0 hm) hcap hB hl hi)
  have HBY := Lib.hid hB
  have HSRC := Lib.hid (fun (W : World) (hm : Mod [] w W) => h.kept0 hm)
  have hb1 := atL_byt hB 1
  obtain ⟨N, hN⟩ := Int.eq_ofNat_of_zero_le hb1.1
  have hR : readR l = ⟨1, readDs l N 2, 0, 0⟩ := by unfold readR; rw [if_pos hk, hN]; rfl
  have HREAD0 := Lib.hid hR
  have H0 := Lib.hid (fun W hm => HAT.out 0 W hm)
  have H1 := Lib.hid (fun W hm => HAT.out 1 W hm)
  rw [hk] at H0
  rw [hN] at H1
  have hN1 : N ≤ 255 := by omega
  have HST0 := Lib.hid (run_start w)
  clear h hB hk HAT hR hb1 hN
  go_enter Try.func26, Try.ntmps26
  go_wp2_with fail
  refine (H0.out _ ((Mod.refl [] w).alloc _)).mono ?_
  rintro e w1 ⟨rfl, rfl⟩
  go_wp2_with fail
  refine (H1.out _ (((Mod.refl [] w).alloc _).alloc _)).mono ?_
  rintro e w1 ⟨rfl, rfl⟩
  go_wp2_with fail
  go_loopw [5, 6] (fun s5 s6 W => ∃ (i m : Nat) (ds : List DoR) (v : Value), s5 = .int .i64 i ∧ s6 = .int .i64 m ∧ m ≤ 255 ∧ i ≤ l.length + 65600 ∧ Hid (ds.length + m = N) ∧ Hid (RunSt w W ds v) ∧ Hid (readDs l N 2 = ds ++ readDs l m i)) (fun _ s6 _ => (intOf s6).toNat)
  case atStart => exact ⟨2, N, [], .slice none 0 0, rfl, rfl, hN1, by omega, Lib.hid (by simp), HST0, Lib.hid (by simp)⟩
  case round =>
    obtain ⟨i, m, ds, v, rfl, rfl, hm255, hi, hdl, hS, hRD⟩ := hrel
    clear HST0
    by_cases hm0 : 0 < m
    · by_cases hil : i ≤ l.length
      · have hgo : (i : Int) ≤ l.length := by omega
        obtain ⟨q, rfl⟩ : ∃ q, m = q + 1 := ⟨m - 1, by omega⟩
        have HP := Lib.hid (readN_place HBY.out i)
        have HR1 := Lib.hid (show readDs l N 2 = (ds ++ [(readN l i).1]) ++ readDs l q (readN l i).2 by
          rw [hRD.out, readDs, if_pos hil]; simp)
        have HCALL := Lib.hid (HRD.out i wr hS.out.1.mod (by omega))
        unfold ReadPost at HCALL
        generalize readN l i = p at HP HR1 HCALL
        obtain ⟨d, j⟩ := p
        have hd1000 : ds.length ≤ 1000 := by have := hdl.out; omega
        have HJ := Lib.hid (show j ≤ l.length + 65600 by have := HP.out; dsimp only at this; omega)
        clear HP hRD
        dsimp only at HCALL HR1
        have hfo := hS.out.1.form
        obtain ⟨va, vc, hv⟩ := hfo
        dsimp only at hv
        subst hv
        go_wp2_with fail
        refine HCALL.out.mono ?_
        rintro e W2 ⟨rfl, m2⟩
        have S2 := Lib.hid ((hS.out.kept m2).kept ((Mod.refl [] W2).alloc (.cells d.cells.toArray 78)))
        obtain ⟨v', W5, W6, r5, r6, s6⟩ := S2.out.add d hd1000 (g := W2.heap.size + 1) (by simp)
        have R5 := Lib.hid r5
        have R6 := Lib.hid r6
        have S6 := Lib.hid s6
        have pd := heap_alloc_new W2 (.cells d.cells.toArray 78)
        have HLD := Lib.hid (load_blk (P := Try.prog) 78 pd Try.underlying78 rfl (by rw [sizeDo]; rfl))
        have q1 := cell_blk S2.out.1.box 1
        simp only [List.getElem?_toArray, List.getElem?_cons_succ, List.getElem?_cons_zero] at q1
        clear r5 r6 s6 m2 pd HCALL
        obtain ⟨dk, df, dnm, dfk, dA, dB, dvk, dc, dsc, de, dtx⟩ := d
        simp only [DoR.cells] at R5 HLD q1
        simp only [DoR.cells]
        go_wp2_with (first | ((with_reducible refine xLoadAt rfl HLD.out ?_ ?_ ?_); exact rfl; exact rfl) | ((with_reducible refine xAppendAt R5.out rfl rfl ?_ ?_ ?_ ?_); exact rfl; exact rfl; exact rfl) | ((with_reducible refine xStoreAt rfl R6.out ?_ ?_ ?_ ?_); exact rfl; exact rfl; exact rfl))
        go_roundw
        case rel => exact ⟨j, q, _, v', rfl, rfl, by omega, HJ.out, Lib.hid (by have := hdl.out; simp; omega), S6, HR1⟩
        case measure => simp [intOf]
      · have hgo : ¬ (i : Int) ≤ l.length := by omega
        have HREAD := Lib.hid (show readR l = ⟨1, ds, 0, 0⟩ by
          obtain ⟨q, rfl⟩ : ∃ q, m = q + 1 := ⟨m - 1, by omega⟩
          rw [HREAD0.out, hRD.out, readDs, if_neg hil, List.append_nil])
        have HFIT : Hid (∀ d ∈ RecR.ds ⟨1, ds, 0, 0⟩, CFit d) := Lib.hid (by
          have h1 : ds = readDs l N 2 := by have := HREAD0.out; rw [HREAD.out] at this; exact (RecR.mk.inj this).2.1
          rw [h1]
          exact readDs_fit HBY.out N 2)
        have hds : ds.length ≤ 255 := by have := hdl.out; omega
        have S := Lib.hid hS.out.1
        have hfo := S.out.form
        obtain ⟨va, vc, hv⟩ := hfo
        dsimp only at hv
        subst hv
        clear hS hRD hdl
        have HL := Lib.hid (load_blk (P := Try.prog) 54 S.out.box Try.underlying54 rfl sizeRecord)
        go_wp2_with ((with_reducible refine xLoadAt rfl HL.out ?_ ?_ ?_); exact rfl; exact rfl)
        refine (rmay25_any ⟨1, ds, 0, 0⟩ (.slice va ds.length vc) _ S.out.dos HFIT.out (by dsimp only; omega)).mono ?_
        rintro e w1 ⟨rfl, m1⟩
        have S1 := Lib.hid (S.out.kept m1)
        clear m1 HL
        by_cases hm : RecR.may ⟨1, ds, 0, 0⟩ = true
        · simp only [hm]
          have S1d := Lib.hid (S1.out.kept ((Mod.refl [] _).drew))
          have HL1 := Lib.hid (load_blk (P := Try.prog) 54 S1d.out.box Try.underlying54 rfl sizeRecord)
          go_wp2_with fail
          refine wp_plan [([0, 3, 4], 1, [4])] [2, 5] (by kernel_rfl) (by kernel_rfl) ?_
          simp only [wpSegs, opsOf, List.map_cons, List.map_nil, opN, List.getD_cons_zero, List.getD_cons_succ]
          have hc1 := conv_bytes (HSRC.out w1.drew S1d.out.mod)
          have HC1 := Lib.hid hc1
          go_wp2_with (first | ((with_reducible refine xLoadAt rfl HL1.out ?_ ?_ ?_); exact rfl; exact rfl) | ((with_reducible refine xConvertAt rfl HC1.out ?_ ?_ ?_); exact rfl; exact rfl))
          refine ⟨by first | trivial | rfl, ?_⟩
          go_wp2_with fail
          refine (refEncode_any ⟨1, ds, 0, 0⟩ (.slice va ds.length vc) _ S1d.out.dos hm).mono ?_
          rintro e w2 ⟨v2, rfl, o2, m2⟩
          have S2 := Lib.hid (S1d.out.kept m2)
          have hc2 := conv_bytes (HSRC.out w2 S2.out.mod)
          have HC2 := Lib.hid hc2
          have hc3 := conv_bytes o2.bytes
          have HC3 := Lib.hid hc3
          obtain ⟨ea, ec, rfl⟩ := o2.form
          go_wp2_with fail
          refine ⟨?ag1, ?_⟩
          case ag1 =>
            intro i hi hw
            simp only [List.mem_cons, List.not_mem_nil, or_false] at hi
            subst hi
            all_goals (simp only [opN, List.getD_cons_zero, List.getD_cons_succ, slotOf]; go_simp; first | done | exact HC2.out)
          go_wp2_with (first | ((with_reducible refine xConvertAt rfl HC2.out ?_ ?_ ?_); exact rfl; exact rfl) | ((with_reducible refine xConvertAt rfl HC3.out ?_ ?_ ?_); exact rfl; exact rfl))
          refine ⟨by first | trivial | rfl, ?_⟩
          have HLd := Lib.hid (load_blk (P := Try.prog) 54 S2.out.box Try.underlying54 rfl sizeRecord)
          have HBE := Lib.hid (show Byt (RecR.enc ⟨1, ds, 0, 0⟩) from HREAD.out ▸ rec_byt (readR_wf HBY.out))
          by_cases heq : RecR.enc ⟨1, ds, 0, 0⟩ = l
          · have hs := str_yes heq
            simp only [hs]
            have HE := Lib.hid (show refDecodeR l = some ⟨1, ds, 0, 0⟩ by unfold refDecodeR; rw [HREAD.out, if_pos ⟨hm, heq⟩])
            obtain ⟨w5, hst, hb5, hd5, mm5⟩ := S2.out.yes
            have HST := Lib.hid hst
            have HM5 := Lib.hid mm5
            have HD5 := Lib.hid hd5
            have HOWN := Lib.hid S2.out.own
            have p0 := cell_blk hb5 0
            have p1 := cell_blk hb5 1
            have p2 := cell_blk hb5 2
            have p3 := cell_blk hb5 3
            simp only [List.getElem?_toArray, List.getElem?_cons_succ, List.getElem?_cons_zero] at p0 p1 p2 p3
            clear heq hst mm5 hb5 hd5 hc1 hc2 hc3 o2 m2 HC1 HC2 HC3 hm
            go_wp2_with (first | ((with_reducible refine xLoadAt rfl HLd.out ?_ ?_ ?_); exact rfl; exact rfl) | ((with_reducible refine xStoreAt rfl HST.out ?_ ?_ ?_ ?_); exact rfl; exact rfl; exact rfl))
            rw [HE.out]
            exact bodyPost_ret (v := .tuple #[.agg #[.int .u8 1, .slice va ds.length vc, .int .i64 0, .int .i64 0], .int .i64 0]) (by simp [results, Try.results26, go_sem, p0, p1, p2, p3]) rfl ⟨_, rfl, HD5.out, HM5.out, fun k hk => Nat.le_trans (by omega) (HOWN.out k hk)⟩
          · have hs := str_no HBE.out HBY.out heq
            simp only [hs]
            have HE := Lib.hid (show refDecodeR l = none by unfold refDecodeR; rw [HREAD.out, if_neg (fun h => heq h.2)])
            obtain ⟨w5, hst, hb5, mm5⟩ := S2.out.no
            have HST := Lib.hid hst
            have HM5 := Lib.hid mm5
            have p0 := cell_blk hb5 0
            have p1 := cell_blk hb5 1
            have p2 := cell_blk hb5 2
            have p3 := cell_blk hb5 3
            simp only [List.getElem?_toArray, List.getElem?_cons_succ, List.getElem?_cons_zero] at p0 p1 p2 p3
            clear heq hst mm5 hb5 hc1 hc2 hc3 o2 m2 HC1 HC2 HC3 hm HLd
            go_wp2_with ((with_reducible refine xStoreAt rfl HST.out ?_ ?_ ?_ ?_); exact rfl; exact rfl; exact rfl)
            rw [HE.out]
            exact bodyPost_ret (v := .tuple #[.agg #[.int .u8 0, .slice none 0 0, .int .i64 0, .int .i64 0], .int .i64 4]) (by simp [results, Try.results26, go_sem, p0, p1, p2, p3]) rfl ⟨rfl, HM5.out⟩
        · have hm0 : RecR.may ⟨1, ds, 0, 0⟩ = false := by simpa using hm
          obtain ⟨w5, hst, hb5, mm5⟩ := S1.out.no
          have HST := Lib.hid hst
          have HE := Lib.hid (show refDecodeR l = none by unfold refDecodeR; rw [HREAD.out, if_neg (by simp [hm0])])
          have HM5 := Lib.hid mm5
          have p0 := cell_blk hb5 0
          have p1 := cell_blk hb5 1
          have p2 := cell_blk hb5 2
          have p3 := cell_blk hb5 3
          simp only [List.getElem?_toArray, List.getElem?_cons_succ, List.getElem?_cons_zero] at p0 p1 p2 p3
          simp only [hm0]
          clear hm hst mm5 hb5
          go_wp2_with ((with_reducible refine xStoreAt rfl HST.out ?_ ?_ ?_ ?_); exact rfl; exact rfl; exact rfl)
          rw [HE.out]
          exact bodyPost_ret (v := .tuple #[.agg #[.int .u8 0, .slice none 0 0, .int .i64 0, .int .i64 0], .int .i64 4]) (by simp [results, Try.results26, go_sem, p0, p1, p2, p3]) rfl ⟨rfl, HM5.out⟩
    · have hm1 : m = 0 := by omega
      subst hm1
      have HREAD := Lib.hid (show readR l = ⟨1, ds, 0, 0⟩ by
        rw [HREAD0.out, hRD.out, readDs, List.append_nil])
      have HFIT : Hid (∀ d ∈ RecR.ds ⟨1, ds, 0, 0⟩, CFit d) := Lib.hid (by
        have h1 : ds = readDs l N 2 := by have := HREAD0.out; rw [HREAD.out] at this; exact (RecR.mk.inj this).2.1
        rw [h1]
        exact readDs_fit HBY.out N 2)
      have hds : ds.length ≤ 255 := by have := hdl.out; omega
      have S := Lib.hid hS.out.1
      have hfo := S.out.form
      obtain ⟨va, vc, hv⟩ := hfo
      dsimp only at hv
      subst hv
      clear hS hRD hdl
      have HL := Lib.hid (load_blk (P := Try.prog) 54 S.out.box Try.underlying54 rfl sizeRecord)
      go_wp2_with ((with_reducible refine xLoadAt rfl HL.out ?_ ?_ ?_); exact rfl; exact rfl)
      refine (rmay25_any ⟨1, ds, 0, 0⟩ (.slice va ds.length vc) _ S.out.dos HFIT.out (by dsimp only; omega)).mono ?_
      rintro e w1 ⟨rfl, m1⟩
      have S1 := Lib.hid (S.out.kept m1)
      clear m1 HL
      by_cases hm : RecR.may ⟨1, ds, 0, 0⟩ = true
      · simp only [hm]
        have S1d := Lib.hid (S1.out.kept ((Mod.refl [] _).drew))
        have HL1 := Lib.hid (load_blk (P := Try.prog) 54 S1d.out.box Try.underlying54 rfl sizeRecord)
        go_wp2_with fail
        refine wp_plan [([0, 3, 4], 1, [4])] [2, 5] (by kernel_rfl) (by kernel_rfl) ?_
        simp only [wpSegs, opsOf, List.map_cons, List.map_nil, opN, List.getD_cons_zero, List.getD_cons_succ]
        have hc1 := conv_bytes (HSRC.out w1.drew S1d.out.mod)
        have HC1 := Lib.hid hc1
        go_wp2_with (first | ((with_reducible refine xLoadAt rfl HL1.out ?_ ?_ ?_); exact rfl; exact rfl) | ((with_reducible refine xConvertAt rfl HC1.out ?_ ?_ ?_); exact rfl; exact rfl))
        refine ⟨by first | trivial | rfl, ?_⟩
        go_wp2_with fail
        refine (refEncode_any ⟨1, ds, 0, 0⟩ (.slice va ds.length vc) _ S1d.out.dos hm).mono ?_
        rintro e w2 ⟨v2, rfl, o2, m2⟩
        have S2 := Lib.hid (S1d.out.kept m2)
        have hc2 := conv_bytes (HSRC.out w2 S2.out.mod)
        have HC2 := Lib.hid hc2
        have hc3 := conv_bytes o2.bytes
        have HC3 := Lib.hid hc3
        obtain ⟨ea, ec, rfl⟩ := o2.form
        go_wp2_with fail
        refine ⟨?ag1, ?_⟩
        case ag1 =>
          intro i hi hw
          simp only [List.mem_cons, List.not_mem_nil, or_false] at hi
          subst hi
          all_goals (simp only [opN, List.getD_cons_zero, List.getD_cons_succ, slotOf]; go_simp; first | done | exact HC2.out)
        go_wp2_with (first | ((with_reducible refine xConvertAt rfl HC2.out ?_ ?_ ?_); exact rfl; exact rfl) | ((with_reducible refine xConvertAt rfl HC3.out ?_ ?_ ?_); exact rfl; exact rfl))
        refine ⟨by first | trivial | rfl, ?_⟩
        have HLd := Lib.hid (load_blk (P := Try.prog) 54 S2.out.box Try.underlying54 rfl sizeRecord)
        have HBE := Lib.hid (show Byt (RecR.enc ⟨1, ds, 0, 0⟩) from HREAD.out ▸ rec_byt (readR_wf HBY.out))
        by_cases heq : RecR.enc ⟨1, ds, 0, 0⟩ = l
        · have hs := str_yes heq
          simp only [hs]
          have HE := Lib.hid (show refDecodeR l = some ⟨1, ds, 0, 0⟩ by unfold refDecodeR; rw [HREAD.out, if_pos ⟨hm, heq⟩])
          obtain ⟨w5, hst, hb5, hd5, mm5⟩ := S2.out.yes
          have HST := Lib.hid hst
          have HM5 := Lib.hid mm5
          have HD5 := Lib.hid hd5
          have HOWN := Lib.hid S2.out.own
          have p0 := cell_blk hb5 0
          have p1 := cell_blk hb5 1
          have p2 := cell_blk hb5 2
          have p3 := cell_blk hb5 3
          simp only [List.getElem?_toArray, List.getElem?_cons_succ, List.getElem?_cons_zero] at p0 p1 p2 p3
          clear heq hst mm5 hb5 hd5 hc1 hc2 hc3 o2 m2 HC1 HC2 HC3 hm
          go_wp2_with (first | ((with_reducible refine xLoadAt rfl HLd.out ?_ ?_ ?_); exact rfl; exact rfl) | ((with_reducible refine xStoreAt rfl HST.out ?_ ?_ ?_ ?_); exact rfl; exact rfl; exact rfl))
          rw [HE.out]
          exact bodyPost_ret (v := .tuple #[.agg #[.int .u8 1, .slice va ds.length vc, .int .i64 0, .int .i64 0], .int .i64 0]) (by simp [results, Try.results26, go_sem, p0, p1, p2, p3]) rfl ⟨_, rfl, HD5.out, HM5.out, fun k hk => Nat.le_trans (by omega) (HOWN.out k hk)⟩
        · have hs := str_no HBE.out HBY.out heq
          simp only [hs]
          have HE := Lib.hid (show refDecodeR l = none by unfold refDecodeR; rw [HREAD.out, if_neg (fun h => heq h.2)])
          obtain ⟨w5, hst, hb5, mm5⟩ := S2.out.no
          have HST := Lib.hid hst
          have HM5 := Lib.hid mm5
          have p0 := cell_blk hb5 0
          have p1 := cell_blk hb5 1
          have p2 := cell_blk hb5 2
          have p3 := cell_blk hb5 3
          simp only [List.getElem?_toArray, List.getElem?_cons_succ, List.getElem?_cons_zero] at p0 p1 p2 p3
          clear heq hst mm5 hb5 hc1 hc2 hc3 o2 m2 HC1 HC2 HC3 hm HLd
          go_wp2_with ((with_reducible refine xStoreAt rfl HST.out ?_ ?_ ?_ ?_); exact rfl; exact rfl; exact rfl)
          rw [HE.out]
          exact bodyPost_ret (v := .tuple #[.agg #[.int .u8 0, .slice none 0 0, .int .i64 0, .int .i64 0], .int .i64 4]) (by simp [results, Try.results26, go_sem, p0, p1, p2, p3]) rfl ⟨rfl, HM5.out⟩
      · have hm0 : RecR.may ⟨1, ds, 0, 0⟩ = false := by simpa using hm
        obtain ⟨w5, hst, hb5, mm5⟩ := S1.out.no
        have HST := Lib.hid hst
        have HE := Lib.hid (show refDecodeR l = none by unfold refDecodeR; rw [HREAD.out, if_neg (by simp [hm0])])
        have HM5 := Lib.hid mm5
        have p0 := cell_blk hb5 0
        have p1 := cell_blk hb5 1
        have p2 := cell_blk hb5 2
        have p3 := cell_blk hb5 3
        simp only [List.getElem?_toArray, List.getElem?_cons_succ, List.getElem?_cons_zero] at p0 p1 p2 p3
        simp only [hm0]
        clear hm hst mm5 hb5
        go_wp2_with ((with_reducible refine xStoreAt rfl HST.out ?_ ?_ ?_ ?_); exact rfl; exact rfl; exact rfl)
        rw [HE.out]
        exact bodyPost_ret (v := .tuple #[.agg #[.int .u8 0, .slice none 0 0, .int .i64 0, .int .i64 0], .int .i64 4]) (by simp [results, Try.results26, go_sem, p0, p1, p2, p3]) rfl ⟨rfl, HM5.out⟩
theorem refDec_any (a : Option Addr) (c : Nat) (l : List Int) (w : World) (h : BytesAt w (.slice a l.length c) l) (hcap : l.length ≤ c) (hB : Byt l) (hl : l.length ≤ 140737488355328) :
    Calls Try.prog 26 #[.slice a l.length c] w (RefDec w (refDecodeR l)) := by
  by_cases hk : atL l 0 = 1
  · exact refDec_run a c l w h hcap hB hl hk
  · exact refDec_span a c l w h hB hl hk
end Go.Proofs.Ytnoookcfacmdkaa
namespace Go.Proofs.Ytnoookcfacmdkaa
open Go.RowKit Go.ChangeMaps
set_option linter.unusedSimpArgs false
set_option linter.unusedVariables false
set_option maxRecDepth 20000

theorem same_split (r s : RecR) : decide (r = s) = (decide (r.k = s.k) && (decide (r.a = s.a) && decide (r.b = s.b)) && decide (r.ds = s.ds)) := by
  obtain ⟨k, ds, a, b⟩ := r
  obtain ⟨k', ds', a', b'⟩ := s
  simp only [RecR.mk.injEq, Bool.decide_and]
  cases decide (k = k') <;> cases decide (a = a') <;> cases decide (b = b') <;> cases decide (ds = ds') <;> rfl
set_option maxHeartbeats 2000000 in
theorem same_any (r s : RecR) (x y : Value) (w : World) (hx : DosAt w x r.ds) (hy : DosAt w y s.ds) (hl : r.ds.length ≤ 9223372036854775807) (hl2 : s.ds.length ≤ 9223372036854775807) :
    Calls Try.prog 32 #[recV r x, recV s y] w fun e w' => e = .returned (.bool (decide (r = s))) ∧ Mod [] w w' := by
  rw [same_split]
  obtain ⟨k, ds, a, b⟩ := r
  obtain ⟨k', ds', a', b'⟩ := s
  unfold recV
  dsimp only at hx hy hl hl2 ⊢
  have HQ := Lib.hid (fun w1 (hm : Mod [] w w1) => equalDo_any w1 x y ds ds' (hx.kept0 hm) (hy.kept0 hm) hl hl2)
  generalize decide (ds = ds') = B at HQ ⊢
  obtain ⟨xa, xc, rfl, _⟩ := hx
  obtain ⟨ya, yc, rfl, _⟩ := hy
  by_cases hk : k = k'
  · subst hk
    by_cases ha : a = a'
    · subst ha
      by_cases hb : b = b'
      · subst hb
        go_enter Try.func32, Try.ntmps32
        go_wp2_with fail
        refine (HQ.out _ (((Mod.refl _ _).alloc _).alloc _)).mono ?_
        rintro e w1 ⟨rfl, h1⟩
        go_wp2_with fail
        go_ret
        exact ⟨by simp, (((Mod.refl _ _).alloc _).alloc _).trans h1⟩
      · clear HQ
        go_enter Try.func32, Try.ntmps32
        go_wp2_with fail
        go_ret
        exact ⟨by simp [hb], ((Mod.refl _ _).alloc _).alloc _⟩
    · clear HQ
      go_enter Try.func32, Try.ntmps32
      go_wp2_with fail
      go_ret
      exact ⟨by simp [ha], ((Mod.refl _ _).alloc _).alloc _⟩
  · clear HQ
    go_enter Try.func32, Try.ntmps32
    go_wp2_with fail
    go_ret
    exact ⟨by simp [hk], ((Mod.refl _ _).alloc _).alloc _⟩
end Go.Proofs.Ytnoookcfacmdkaa
namespace Go.Proofs.Ytnoookcfacmdkaa
open Go.RowKit Go.ChangeMaps
set_option linter.unusedSimpArgs false
set_option linter.unusedVariables false
set_option maxRecDepth 20000

set_option maxHeartbeats 4000000 in
theorem refSame_any (r s : RecR) (x y : Value) (w : World) (hx : DosAt w x r.ds) (hy : DosAt w y s.ds) (hl : r.ds.length ≤ 9223372036854775807) (hl2 : s.ds.length ≤ 9223372036854775807) :
    Calls Try.prog 27 #[recV r x, recV s y] w fun e w' => e = .returned (.bool (decide (r = s))) ∧ Mod [] w w' := by
  rw [same_split]
  obtain ⟨k, ds, a, b⟩ := r
  obtain ⟨k', es, a', b'⟩ := s
  unfold recV
  dsimp only at hx hy hl hl2 ⊢
  have HX := Lib.hid hx
  have HY := Lib.hid hy
  obtain ⟨xa, xc, rfl, _⟩ := hx
  obtain ⟨ya, yc, rfl, _⟩ := hy
  by_cases hk : k = k'
  · subst hk
    by_cases ha : a = a'
    · subst ha
      by_cases hb : b = b'
      · subst hb
        by_cases hlen : ds.length = es.length
        · have HL := Lib.hid hlen
          rw [← hlen]
          rw [← hlen] at HY hl2
          clear hlen hl2
          have HN1 := Lib.hid (((Mod.refl [] (w.alloc (.cells #[.int .u8 k, .slice xa ds.length xc, .int .i64 a, .int .i64 b] 54))).alloc (.cells #[.int .u8 k, .slice ya ds.length yc, .int .i64 a, .int .i64 b] 54)).heap (heap_alloc_new w (.cells #[.int .u8 k, .slice xa ds.length xc, .int .i64 a, .int .i64 b] 54)) (by simp))
          have hc1 := heap_alloc_new (w.alloc (.cells #[.int .u8 k, .slice xa ds.length xc, .int .i64 a, .int .i64 b] 54)) (.cells #[.int .u8 k, .slice ya ds.length yc, .int .i64 a, .int .i64 b] 54)
          rw [show (w.alloc (.cells #[.int .u8 k, .slice xa ds.length xc, .int .i64 a, .int .i64 b] 54)).heap.size = w.heap.size + 1 by simp] at hc1
          have HN2 := Lib.hid hc1
          clear hc1
          have HM0 := Lib.hid (((Mod.refl [] w).alloc (.cells #[.int .u8 k, .slice xa ds.length xc, .int .i64 a, .int .i64 b] 54)).alloc (.cells #[.int .u8 k, .slice ya ds.length yc, .int .i64 a, .int .i64 b] 54))
          go_enter Try.func27, Try.ntmps27
          go_wp2_with fail
          go_loopw [5] (fun s5 wr => ∃ i : Nat, i ≤ ds.length ∧ s5 = .int .i64 i ∧ Hid (Mod [] ((w.alloc (.cells #[.int .u8 k, .slice xa ds.length xc, .int .i64 a, .int .i64 b] 54)).alloc (.cells #[.int .u8 k, .slice ya ds.length yc, .int .i64 a, .int .i64 b] 54)) wr) ∧ Hid (ds.take i = es.take i)) (fun s5 _ => ds.length - (intOf s5).toNat)
          case atStart => exact ⟨0, by omega, rfl, Lib.hid (Mod.refl _ _), Lib.hid (by simp)⟩
          case round =>
            obtain ⟨i, hi, rfl, hm, hall⟩ := hrel
            have hcr := hm.out.heap HN1.out (by simp)
            have p1 := cell_blk hcr 1
            simp at p1
            clear hcr
            have hcr := hm.out.heap HN2.out (by simp)
            have p2 := cell_blk hcr 1
            simp at p2
            clear hcr
            by_cases hlt : i < ds.length
            · have hlt2 : i < es.length := by rw [← HL.out]; exact hlt
              obtain ⟨b1, o1, rfl, h1⟩ := HX.out.get hlt
              obtain ⟨b2, o2, rfl, h2⟩ : ∃ b2 o2, ya = some ⟨b2, o2, none⟩ ∧ w.rangeAt b2 (o2 + i * 11) es[i].cells := by
                have hq := HY.out
                rw [HL.out] at hq
                exact hq.get hlt2
              have HT1 := Lib.hid (show ds.take (i + 1) = ds.take i ++ [ds[i]] from List.take_succ_eq_append_getElem hlt)
              have HT2 := Lib.hid (show es.take (i + 1) = es.take i ++ [es[i]] from List.take_succ_eq_append_getElem hlt2)
              have HNE : Hid (ds[i] ≠ es[i] → ds ≠ es) := Lib.hid (fun h e => h (by subst e; rfl))
              generalize ds[i] = d at h1 HT1 HNE
              generalize es[i] = e at h2 HT2 HNE
              have HL1 := Lib.hid (load_do (rangeAt_mod h1 (HM0.out.trans (hm.out.trans ((Mod.refl [] wr).drew))) (by simp)))
              have HL2 := Lib.hid (load_do (rangeAt_mod h2 (HM0.out.trans (hm.out.trans ((Mod.refl [] wr).drew))) (by simp)))
              have HQ := Lib.hid (neq_do d e)
              clear h1 h2 hlt2
              by_cases hde : d = e
              · rw [decide_eq_true hde] at HQ
                have HDE := Lib.hid hde
                clear hde
                go_wp2_with fail
                refine wp_plan [] [0, 2, 5, 7, 1, 6, 3, 8, 4, 9, 10] (by kernel_rfl) (by kernel_rfl) ?_
                simp only [wpSegs, opsOf, List.map_cons, List.map_nil, opN, List.getD_cons_zero, List.getD_cons_succ]
                go_wp2_with (first | ((with_reducible refine xLoadAt rfl HL1.out ?_ ?_ ?_); exact rfl; exact rfl) | ((with_reducible refine xLoadAt rfl HL2.out ?_ ?_ ?_); exact rfl; exact rfl) | ((with_reducible refine xEqAgg (t := 78) rfl (HQ.out _) guard_do ?_ ?_ ?_ ?_); exact rfl; exact rfl; exact rfl))
                refine ⟨by first | trivial | rfl, ?_⟩
                have HMq := Lib.hid (hm.out.trans ((Mod.refl [] wr).drew))
                go_wp2_with fail
                go_roundw
                case rel => exact ⟨i + 1, by omega, by go_num, HMq, Lib.hid (by rw [HT1.out, HT2.out, hall.out, HDE.out])⟩
                case measure => simp [intOf]; omega
              · rw [decide_eq_false hde] at HQ
                have HDE := Lib.hid (HNE.out hde)
                clear hde HNE
                go_wp2_with fail
                refine wp_plan [] [0, 2, 5, 7, 1, 6, 3, 8, 4, 9, 10] (by kernel_rfl) (by kernel_rfl) ?_
                simp only [wpSegs, opsOf, List.map_cons, List.map_nil, opN, List.getD_cons_zero, List.getD_cons_succ]
                go_wp2_with (first | ((with_reducible refine xLoadAt rfl HL1.out ?_ ?_ ?_); exact rfl; exact rfl) | ((with_reducible refine xLoadAt rfl HL2.out ?_ ?_ ?_); exact rfl; exact rfl) | ((with_reducible refine xEqAgg (t := 78) rfl (HQ.out _) guard_do ?_ ?_ ?_ ?_); exact rfl; exact rfl; exact rfl))
                refine ⟨by first | trivial | rfl, ?_⟩
                go_wp2_with fail
                go_ret
                exact ⟨by simp [HDE.out], HM0.out.trans (hm.out.trans ((Mod.refl [] wr).drew))⟩
            · have hge : ds.length ≤ i := by omega
              have HE : Hid (ds = es) := Lib.hid (by
                have h1 := hall.out
                rw [List.take_of_length_le hge, List.take_of_length_le (by rw [← HL.out]; exact hge)] at h1
                exact h1)
              go_wp2_with fail
              go_ret
              exact ⟨by simp [HE.out], HM0.out.trans hm.out⟩
        · have hne : ds ≠ es := fun e => hlen (by rw [e])
          clear HX HY
          go_enter Try.func27, Try.ntmps27
          go_wp2_with fail
          go_ret
          exact ⟨by simp [hne], ((Mod.refl _ _).alloc _).alloc _⟩
      · clear HX HY
        go_enter Try.func27, Try.ntmps27
        go_wp2_with fail
        go_ret
        exact ⟨by simp [hb], ((Mod.refl _ _).alloc _).alloc _⟩
    · clear HX HY
      go_enter Try.func27, Try.ntmps27
      go_wp2_with fail
      go_ret
      exact ⟨by simp [ha], ((Mod.refl _ _).alloc _).alloc _⟩
  · clear HX HY
    go_enter Try.func27, Try.ntmps27
    go_wp2_with fail
    go_ret
    exact ⟨by simp [hk], ((Mod.refl _ _).alloc _).alloc _⟩
end Go.Proofs.Ytnoookcfacmdkaa
namespace Go.Proofs.Ytnoookcfacmdkaa
open Go.RowKit Go.ChangeMaps
set_option linter.unusedSimpArgs false
set_option linter.unusedVariables false

theorem Mod.grown {w w' : World} {row : Option Nat} {l : List Nat} (h : w.grownBy w' row) (hl : ∀ k, row = some k → k ∈ l ∨ w.heap.size ≤ k) : Mod l w w' :=
  ⟨h.os, h.tape, h.output, h.size, fun k hk hn => h.block k hk fun e => by
    rcases hl k e.symm with h1 | h1
    · exact hn h1
    · omega⟩
theorem Mod.toNil {l : List Nat} {w0 w w' : World} (h0 : Mod [] w0 w) (h : Mod l w w') (hl : ∀ k ∈ l, w0.heap.size ≤ k) : Mod [] w0 w' :=
  ⟨h.os.trans h0.os, h.tape.trans h0.tape, h.output.trans h0.output, Nat.le_trans h0.size h.size, fun k hk _ => (h.block k (Nat.lt_of_lt_of_le hk h0.size) fun hn => by have := hl k hn; omega).trans (h0.block k hk (by simp))⟩
/-- A block of the call's own in which a slice begins. -/
def OwnCells (w : World) (base : Nat) (e : TypeId) (size : Nat) (v : Value) (n : Nat) (xs : List Value) : Prop :=
  ∃ g cap cur, v = .slice (some ⟨g, 0, none⟩) n cap ∧ base ≤ g ∧ w.heap[g]? = some (.cells cur e (0, 0)) ∧ n ≤ cap ∧ cap ≤ maxLen ∧ cur.size = cap * size ∧ cur.toList.take (n * size) = xs
theorem append_all {P : Program} {w : World} (base : Nat) (t e : TypeId) (i : TypeInfo) (z : Value) (size bytes : Nat) (ht : P.underlying t = some (.slice e)) (hi : P.info? e = some i) (hz : i.zero = some z)
    (hsize : i.size = size) (hby : i.bytes = bytes) (hzs : z.cells.size = size) (hsz : 0 < size) {g0 : Nat} (h0 : w.heap[g0]? = some (.cells #[] e (0, 0))) (hb0 : base ≤ g0)
    {x : Value} {n : Nat} {news : List Value} (hx : (∃ ad c, x = .slice (some ad) n c ∧ ∀ j u, news[j]? = some u → w.cell? (ad.add j) = some u) ∨ (∃ c, x = .slice none 0 c ∧ n = 0)) (hl : news.length = n * size) (h1 : ∀ u ∈ news, u.oneCell' = true) (h63 : n ≤ maxLen) (hbytes : n * bytes ≤ 140737488355328) (ty : TypeId) :
    ∃ v' w', (Builtin.append_ #[t, t] ty #[.slice (some ⟨g0, 0, none⟩) 0 0, x]).run P w = .ok v' w' ∧ OwnCells w' base e size v' n news ∧ Mod [g0] w w' := by
  have hlt := lt_of_heap h0
  have hown : w.ownsRow base e size (.slice (some ⟨g0, 0, none⟩) 0 0) 0 [] := ⟨by simp, .inr ⟨g0, 0, #[], rfl, hb0, h0, Nat.le_refl _, by simp, by simp, by simp⟩⟩
  rcases hx with ⟨ad, c, rfl, hc⟩ | ⟨c, rfl, rfl⟩
  · obtain ⟨v', w', k1, k2, k3, k4⟩ := run_append_own (P := P) w base t ty e i z size bytes ht hi hz hsize hby hzs hsz _ 0 [] hown ad n c news hl
      hc h1 (by omega) (by simpa using hbytes) (by omega)
    refine ⟨v', w', k1, ?_, Mod.grown k3 fun k hk => .inl (by simpa [Value.ownBlock] using hk.symm)⟩
    rw [Nat.zero_add, List.nil_append] at k2
    rcases k2.2 with ⟨hv, hn⟩ | hr
    · have := (k4.1 hv).1
      cases this
    · exact hr
  · have hn : news = [] := List.length_eq_zero_iff.1 (by simpa using hl)
    subst hn
    refine ⟨.slice (some ⟨g0, 0, none⟩) 0 0, w, ?_, ⟨g0, 0, #[], rfl, hb0, h0, Nat.le_refl _, by simp, by simp, by simp⟩, Mod.refl _ _⟩
    simp [Builtin.append_, run_underlying ht, sizeOf, typeInfo, hi, Builtin.lenOf, Builtin.firstCells, storeCells, Result.andThen]
/-- A block that begins with bytes. -/
def Row8 (w : World) (gb len : Nat) : Prop := ∃ cur T, w.heap[gb]? = some (.cells cur T (0, 0)) ∧ len ≤ cur.size ∧ ∀ j, j < len → ∃ x, cur[j]? = some (.int .u8 x)
theorem Row8.cell {w : World} {gb len : Nat} (h : Row8 w gb len) {j : Nat} (hj : j < len) : ∃ x, w.cell? ⟨gb, j, none⟩ = some (.int .u8 x) ∧ w.frozen? ⟨gb, j, none⟩ = false := by
  obtain ⟨cur, T, h1, h2, h3⟩ := h
  obtain ⟨x, hx⟩ := h3 j hj
  exact ⟨x, by rw [cell_blk h1, hx], frozen_blk h1 j⟩
theorem Row8.set {w : World} {gb len : Nat} (h : Row8 w gb len) (i : Nat) (y : Int) : Row8 (w.setCell ⟨gb, i, none⟩ (.int .u8 y)) gb len := by
  obtain ⟨cur, T, h1, h2, h3⟩ := h
  refine ⟨_, T, heap_setCell_blk h1 i _, by simpa using h2, fun j hj => ?_⟩
  rw [Array.getElem?_setIfInBounds]
  split
  · subst_vars
    exact ⟨y, by rw [if_pos (by omega)]⟩
  · exact h3 j hj
theorem Row8.kept {w w' : World} {gb len : Nat} {l : List Nat} (h : Row8 w gb len) (hm : Mod l w w') (hn : gb ∉ l) : Row8 w' gb len := by
  obtain ⟨cur, T, h1, h2, h3⟩ := h
  exact ⟨cur, T, hm.heap h1 hn, h2, h3⟩
theorem Row8.lt {w : World} {gb len : Nat} (h : Row8 w gb len) : gb < w.heap.size := by
  obtain ⟨cur, T, h1, _⟩ := h
  exact lt_of_heap h1
theorem infoU8 : ∃ i z, Try.prog.info? 5 = some i ∧ i.zero = some z ∧ i.size = 1 ∧ i.bytes = 1 ∧ z.cells.size = 1 := by
  have h : (Try.prog.info? 5).map (fun i => (i.zero.map (·.cells.size), i.size, i.bytes)) = some (some 1, 1, 1) := by kernel_rfl
  cases hi : Try.prog.info? 5 with
  | none => rw [hi] at h; cases h
  | some i =>
    rw [hi] at h
    simp only [Option.map_some, Option.some.injEq, Prod.mk.injEq] at h
    obtain ⟨h1, h2, h3⟩ := h
    cases hz : i.zero with
    | none => rw [hz] at h1; cases h1
    | some z => rw [hz] at h1; exact ⟨i, z, rfl, hz, h2, h3, by simpa using h1⟩
theorem bytes_src {w : World} {v : Value} {l : List Int} (h : BytesAt w v l) : (∃ ad c, v = .slice (some ad) l.length c ∧ ∀ j u, (bv l)[j]? = some u → w.cell? (ad.add j) = some u) ∨ (∃ c, v = .slice none 0 c ∧ l.length = 0) := by
  cases h with
  | nil a cap =>
    cases a with
    | none => exact .inr ⟨cap, rfl, rfl⟩
    | some ad => exact .inl ⟨ad, cap, rfl, fun j u hu => by simp [bv] at hu⟩
  | at_ b o cap l hr => exact .inl ⟨_, cap, rfl, fun j u hu => by rw [Addr.add_mid]; exact hr j u hu⟩
/-- The bytes are copied behind an empty slice of the call's own. -/
theorem copy_bytes {w : World} {v : Value} {l : List Int} (h : BytesAt w v l) (hl : l.length ≤ 140737488355328) :
    ∃ gb c w', (Builtin.append_ #[23, 23] 23 #[.slice (some ⟨w.heap.size, 0, none⟩) 0 0, v]).run Try.prog (w.alloc (.cells #[] 5)) = .ok (.slice (some ⟨gb, 0, none⟩) l.length c) w' ∧
      w.heap.size ≤ gb ∧ Mod [] w w' ∧ Row8 w' gb l.length ∧ BytesAt w' (.slice (some ⟨gb, 0, none⟩) l.length c) l ∧ l.length ≤ c ∧ c ≤ maxLen ∧ w'.rangeAt gb 0 (bv l) := by
  obtain ⟨i, z, hi, hz, hs, hby, hzs⟩ := infoU8
  obtain ⟨v', w', hrun, ⟨g, cap, cur, rfl, hb, hg, hn, hm, hsz, htk⟩, hmod⟩ := append_all (P := Try.prog) (w := w.alloc (.cells #[] 5)) w.heap.size 23 5 i z 1 1 (by kernel_rfl) hi hz hs hby hzs (by omega) (heap_alloc_new w _) (Nat.le_refl _)
    (bytes_src (h.kept0 ((Mod.refl [] w).alloc _))) (by simp [bv_length]) (by
      have := oneCell_bv l
      intro u hu
      rw [Array.all_eq_true'] at this
      exact this u (by simpa using hu)) (by unfold maxLen; omega) (by omega) 23
  have hat : ∀ j u, (bv l)[j]? = some u → cur[j]? = some u := fun j u hj => by
    rw [← htk, List.getElem?_take] at hj
    split at hj
    · simpa using hj
    · cases hj
  refine ⟨g, cap, w', hrun, hb, ((Mod.refl [] w).alloc _).toNil hmod (by simp), ⟨cur, _, hg, by omega, fun j hj => ?_⟩, .at_ g 0 cap l fun j u hj => ?_, hn, hm, fun j u hj => ?_⟩
  · exact ⟨l[j], hat j _ (by simp [bv, hj])⟩
  · rw [Nat.zero_add, cell_blk hg]
    exact hat j u hj
  · rw [Nat.zero_add, cell_blk hg]
    exact hat j u hj
end Go.Proofs.Ytnoookcfacmdkaa

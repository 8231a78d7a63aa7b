/- Parentheses around a text that has a tree make the same one, one level deeper, and what is read is a whole. What the library's listed variables hold is tied to the program's text. -/
import Derived.Test.YtdaokholmlpfkaaDoorPzQ
import Derived.Test.YtdaokholmlpfkaaDoorRows
import Derived.WalkKit
import Derived.ProofKit
import Derived.OpenShut
import Derived.SizedLaws
import Derived.Carry
import Derived.Deep.MidRow
import Derived.LaidLaws
import Derived.LaidMore
import Derived.Stop.LaidErr
import Derived.Shelf.Vars
import Derived.MakeChecks
import Derived.Handed
import Derived.Lib.LaidTab
import Derived.Test.YtdaokholmlpfkaaDoorTie
import Derived.Test.YtdaokholmlpfkaaDoorCards
import Derived.SevenTiedAt
namespace Go.Proofs.YtdaokholmlpfkaaDoor
open Go.RowKit Go.ChangeMaps Go.Deep
set_option linter.unusedSimpArgs false
set_option linter.unusedVariables false
set_option maxRecDepth 20000

theorem eql_arr3 (a b c : Int) (w : World) : (binOp .eql 32 (.agg #[.int .i64 a, .int .i64 b, .int .i64 c]) (.agg #[.int .i64 a, .int .i64 b, .int .i64 c])).run Tryd.prog w = .ok (.bool true) w := by
  rw [run_eql_struct, eq_arr3 9998]
  rfl
theorem guard_arr3 : Tryd.prog.eqGuardType Tryd.prog.depth 32 = false := by kernel_rfl
def tx1 : List UInt8 := [97, 32, 43, 32, 50, 32, 42, 32, 98]
def tx2 : List UInt8 := [110, 111, 116, 32, 97, 32, 61, 32, 98]
def tx3 : List UInt8 := [97, 32, 60, 32, 98, 32, 60, 32, 99]
def tx4 : List UInt8 := [108, 97, 103, 40, 97, 44, 32, 51, 54, 54, 49, 41]
theorem tx_is : (bz "a + 2 * b").data.toList = tx1 ∧ (bz "not a = b").data.toList = tx2 ∧ (bz "a < b < c").data.toList = tx3 ∧ (bz "lag(a, 3661)").data.toList = tx4 := by
  refine ⟨?_, ?_, ?_, ?_⟩ <;> decide +kernel
/-- a node's own cells -/
theorem row_cells {w : World} {a : Option Addr} {c : Nat} {l : List Nz} (h : RowAt encNz w (.slice a l.length c) l) {i : Nat} {n : Nz} (hi : l[i]? = some n) : ∃ b o, a = some ⟨b, o, none⟩ ∧ l.length ≤ c ∧ w.cell? ⟨b, o + i * 9, none⟩ = some (.int .u8 n.op) ∧ w.rangeAt b (o + i * 9 + 5) [.int .i64 n.k0, .int .i64 n.k1, .int .i64 n.k2] := by
  obtain ⟨hlt, rfl⟩ := List.getElem?_eq_some_iff.1 hi
  obtain ⟨b, o, rfl, hc, hr⟩ := row_node h hlt
  refine ⟨b, o, rfl, hc, ?_, fun j u hu => ?_⟩
  · have := hr 0 _ rfl
    simpa using this
  · have hj : j < 3 := by have := (List.getElem?_eq_some_iff.1 hu).1; simpa using this
    have := hr (5 + j) u (by
      rcases j with _ | _ | _ | j
      · exact hu
      · exact hu
      · exact hu
      · omega)
    rw [← this]
    congr 2
    omega
set_option maxHeartbeats 8000000 in
theorem known15_at {w : World} (hg : Gl w) : Calls Tryd.prog 4 #[] w fun e w' => e = .returned (.bool true) ∧ Mod [] w w' := by
  have C1 := Lib.hid (psParse_at hg tx1 (by decide))
  have C2 := Lib.hid (fun (W : World) (h : Gl W) => psParse_at h tx2 (by decide))
  have C3 := Lib.hid (fun (W : World) (h : Gl W) => psParse_at h tx3 (by decide))
  have C4 := Lib.hid (fun (W : World) (h : Gl W) => psParse_at h tx4 (by decide))
  have HG := Lib.hid hg
  have e1 := ex1_is
  have e2 := ex2_is
  have e3 := ex3_is
  have e4 := ex4_is
  unfold ex1 at e1
  unfold ex2 at e2
  unfold ex3 at e3
  unfold ex4 at e4
  rw [tx_is.1] at e1
  rw [tx_is.2.1] at e2
  rw [tx_is.2.2.1] at e3
  rw [tx_is.2.2.2] at e4
  have E1 := Lib.hid e1
  have E2 := Lib.hid e2
  have E3 := Lib.hid e3
  have E4 := Lib.hid e4
  clear e1 e2 e3 e4 hg
  go_enter Tryd.func4, Tryd.ntmps4
  go_wp2_with fail
  refine C1.out.mono ?_
  rintro e w1 ⟨⟨v1, rfl, o1⟩, m1⟩
  have HM1 := Lib.hid m1
  have O1 := Lib.hid o1
  rw [E1.out.1]
  clear m1 o1
  go_wp2_with fail
  refine (C2.out _ (HG.out.kept0 HM1.out)).mono ?_
  rintro e w2 ⟨⟨v2, rfl, o2⟩, m2⟩
  have HM2 := Lib.hid (HM1.out.trans m2)
  have O12 := Lib.hid (O1.out.kept0 m2)
  have O2 := Lib.hid o2
  rw [E2.out.1]
  clear m2 o2
  go_wp2_with fail
  refine (C3.out _ (HG.out.kept0 HM2.out)).mono ?_
  rintro e w3 ⟨⟨v3, rfl, o3⟩, m3⟩
  have HM3 := Lib.hid (HM2.out.trans m3)
  have O13 := Lib.hid (O12.out.kept0 m3)
  have O23 := Lib.hid (O2.out.kept0 m3)
  rw [E3.out.1, E3.out.2]
  clear m3 o3
  go_wp2_with fail
  refine (C4.out _ (HG.out.kept0 HM3.out)).mono ?_
  rintro e w4 ⟨⟨v4, rfl, o4⟩, m4⟩
  have HM4 := Lib.hid (HM3.out.trans m4)
  have r1 := (O13.out.kept0 m4).row
  have r2 := (O23.out.kept0 m4).row
  rw [E4.out.1, E4.out.2]
  clear m4 o4 C1 C2 C3 C4 O1 O12 O2 O13 O23
  have f1 := E1.out.2
  have f2 := E2.out.2
  generalize (treeZ tx1).2.2 = T1 at r1 f1
  generalize (treeZ tx2).2.2 = T2 at r2 f2
  obtain ⟨l1, f14, f13⟩ := f1
  obtain ⟨l2, f23⟩ := f2
  obtain ⟨n4, hn4, hn4'⟩ := Option.map_eq_some_iff.1 f14
  obtain ⟨n3, hn3, hn3'⟩ := Option.map_eq_some_iff.1 f13
  obtain ⟨n2, hn2, hn2'⟩ := Option.map_eq_some_iff.1 f23
  obtain ⟨a1, c1, rfl⟩ := r1.form
  obtain ⟨a2, c2, rfl⟩ := r2.form
  obtain ⟨b1, o1, rfl, hc1, k4, g4⟩ := row_cells r1 hn4
  obtain ⟨_, _, e, -, k3, -⟩ := row_cells r1 hn3
  cases e
  obtain ⟨b2, o2, rfl, hc2, k2, -⟩ := row_cells r2 hn2
  simp only [Prod.mk.injEq] at hn4'
  obtain ⟨q1, q2, q3, q4⟩ := hn4'
  rw [q1] at k4
  rw [q2, q3, q4] at g4
  rw [hn3'] at k3
  rw [hn2'] at k2
  rw [l1] at hc1 ⊢
  rw [l2] at hc2 ⊢
  have LD := Lib.hid (show (Instr.loadAt 32 (.pointer (some ⟨b1, o1 + 36 + 5, none⟩))).run Tryd.prog w4 = .ok (.agg #[.int .i64 0, .int .i64 3, .int .i64 (-1)]) w4 from run_loadAt_mid (P := Tryd.prog) w4 b1 (o1 + 4 * 9 + 5) 32 #[.int .i64 0, .int .i64 3, .int .i64 (-1)].toList _ g4 Tryd.underlying32 rfl (by rw [sizeArr3]; rfl))
  have HQ := Lib.hid (eql_arr3 0 3 (-1) w4)
  clear f14 f13 f23 hn4 hn3 hn2 q1 q2 q3 q4 hn3' hn2' g4 r1 r2
  go_wp2_with (first | ((with_reducible refine xLoadAt rfl LD.out ?_ ?_ ?_); exact rfl; exact rfl) | ((with_reducible refine xEqAgg (t := 32) rfl HQ.out guard_arr3 ?_ ?_ ?_ ?_); exact rfl; exact rfl; exact rfl))
  first | go_ret3 | go_ret2 | go_ret
  exact ⟨rfl, HM4.out⟩
end Go.Proofs.YtdaokholmlpfkaaDoor
namespace Go.Proofs.YtdaokholmlpfkaaDoor
open Go.RowKit Go.ChangeMaps Go.Deep
set_option linter.unusedSimpArgs false
set_option linter.unusedVariables false
set_option maxRecDepth 20000

theorem tx_around (l : List UInt8) : (⟨#[40]⟩ : ByteArray) ++ txZ l ++ (⟨#[41]⟩ : ByteArray) = txZ (40 :: (l ++ [41])) := by
  apply ByteArray.ext
  simp [txZ, ByteArray.append_eq]
theorem mod_into {l ks : List Nat} {w0 w w' : World} (h0 : Mod l w0 w) (h : Mod ks w w') (hl : ∀ k ∈ ks, k ∈ l ∨ w0.heap.size ≤ k) : Mod l w0 w' :=
  ⟨h.os.trans h0.os, h.tape.trans h0.tape, h.output.trans h0.output, Nat.le_trans h0.size h.size, fun k hk hn => (h.block k (Nat.lt_of_lt_of_le hk h0.size) (fun hm => by rcases hl k hm with h1 | h1; exact hn h1; omega)).trans (h0.block k hk hn)⟩
/-- how often each place was named, as it lies -/
structure AbSt (wA W : World) (T : List Nz) (AB i j : Nat) (A : List Int) : Prop where
  own : OwnR encI 1 3 W AB (.slice (some ⟨AB, 0, none⟩) A.length T.length) A
  abv : AbvAt T i j A
  mod : Mod [AB] wA W
theorem AbvAt.low {T : List Nz} {i j : Nat} {A : List Int} (h : AbvAt T i j A) (ht : T.length ≤ 100) {v : Nat} (hv : v < A.length) (hi : i ≤ T.length) : 0 ≤ A[v] ∧ A[v] ≤ 1000 := by
  rw [h.2 v hv]
  have h1 : ∀ (L : List Nz) (u : Int), cntL L u ≤ 3 * L.length := by
    intro L u
    induction L with
    | nil => simp [cntL]
    | cons n L ih =>
      have e : cntL (n :: L) u = n.cnt u + cntL L u := by simp [cntL]
      have : n.cnt u ≤ 3 := by unfold Nz.cnt; split <;> split <;> split <;> omega
      rw [e, List.length_cons]
      omega
  have h2 := h1 (T.take i) v
  have h3 : ((((T[i]?).map Nz.kids).getD []).take j).count (v : Int) ≤ 3 := by
    have h4 : ∀ (o : Option Nz), ((o.map Nz.kids).getD []).length ≤ 3 := by
      intro o
      cases o with
      | none => simp
      | some n => exact Nat.le_refl 3
    have h5 := h4 T[i]?
    refine Nat.le_trans List.count_le_length ?_
    rw [List.length_take]
    omega
  rw [List.length_take] at h2
  omega
set_option maxHeartbeats 8000000 in
theorem brackets15_at {w : World} (hg : Gl w) (l : List UInt8) : Calls Tryd.prog 3 #[.string (txZ l)] w fun e w' => e = .returned (.bool true) ∧ Mod [] w w' := by
  have hsz := tx_size l
  have CK := Lib.hid (fun (W : World) (h : Gl W) => known15_at h)
  have HG := Lib.hid hg
  clear hg
  by_cases h300 : 300 < l.length
  · have d1 : decide ((300 : Int) < (l.length : Int)) = true := decide_eq_true (by omega)
    go_enter Tryd.func3, Tryd.ntmps3
    go_wp2_with fail
    refine (CK.out _ HG.out).mono ?_
    rintro e w1 ⟨rfl, m1⟩
    have HM := Lib.hid m1
    clear m1
    go_wp2_with fail
    first | go_ret3 | go_ret2 | go_ret
    exact ⟨rfl, HM.out⟩
  · have d1 : decide ((300 : Int) < (l.length : Int)) = false := decide_eq_false (by omega)
    have CP1 := Lib.hid (psParse_at HG.out l (by omega))
    have CP2 := Lib.hid (fun (W : World) (h : Gl W) => psParse_at h (40 :: (l ++ [41])) (by simp; omega))
    have hap := tx_around l
    have h3 : l.length ≤ 300 := by omega
    have HTP := Lib.hid (fun q T h => tree_paren h3 (p := q) (T := T) h)
    have HTC := Lib.hid (fun q x T h => tree_cases (l := l) (p := q) (e := x) (T := T) h)
    generalize hT : treeZ l = R at HTP HTC
    have HT := Lib.hid hT
    go_enter Tryd.func3, Tryd.ntmps3
    go_wp2_with fail
    refine CP1.out.mono ?_
    rintro e w1 ⟨⟨v1, rfl, o1⟩, m1⟩
    rw [hT] at o1 ⊢
    obtain ⟨q, x, T⟩ := R
    dsimp only at o1 ⊢
    have HM1 := Lib.hid m1
    have O1 := Lib.hid o1
    clear m1 o1 h300 hT
    go_wp2_with fail
    refine (CP2.out _ (HG.out.kept0 HM1.out)).mono ?_
    rintro e w2 ⟨⟨v2, rfl, o2⟩, m2⟩
    have HM2 := Lib.hid (HM1.out.trans m2)
    have HA := Lib.hid (O1.out.kept0 m2)
    have HB := Lib.hid o2
    clear m2 o2 hap
    rcases HTC.out q x T rfl with ⟨rfl, rfl, hne, h100, hw⟩ | ⟨hx, rfl⟩
    · -- a tree
      rcases HTP.out 0 T rfl with h2 | ⟨p2, h2⟩
      · rw [h2] at HB ⊢
        dsimp only at HB ⊢
        have hTpos : 0 < T.length := List.length_pos_iff.2 hne
        obtain ⟨a1, c1, rfl⟩ := HA.out.lens
        obtain ⟨a2, c2, hv2⟩ := HB.out.lens
        rw [List.length_map] at hv2
        subst hv2
        have CS := Lib.hid (same15_at HA.out.row HB.out.row true (by simp) (by omega) (fun i h1 h2 => by simp [bareN, Nz.sh]))
        have HW := Lib.hid hw
        have HNE := Lib.hid hne
        clear h2 hne hw
        go_wp2_with fail
        refine CS.out.mono ?_
        rintro e w3 ⟨rfl, m3⟩
        have HM3 := Lib.hid (HM2.out.trans m3)
        have HA3 := Lib.hid (HA.out.kept0 m3)
        clear m3 HB
        have n1 : ((T.length : Int) == 0) = false := by rw [beq_eq_false_iff_ne]; omega
        have n2 : decide ((100 : Int) < (T.length : Int)) = false := decide_eq_false (by omega)
        have hmk := fun W => run_makeInts T.length (by omega) W
        have HX3 := Lib.hid (And.intro hTpos h100)
        obtain ⟨wA, hwA, nA, zA, mA⟩ := alloc_named2 w3 (.cells (Array.replicate T.length (.int .i64 0)) 3)
        have hown := own_zeros w3 T.length w3.heap.size (Nat.le_refl _) (by omega)
        rw [hwA] at hown
        have hst : AbSt wA wA T w3.heap.size 0 0 (List.replicate T.length 0) := ⟨hown, AbvAt.zero T, Mod.refl _ _⟩
        have HST := Lib.hid hst
        have HMA := Lib.hid (HM3.out.trans mA)
        have HAA := Lib.hid (HA3.out.kept0 mA)
        have HZ := Lib.hid (And.intro zA HM3.out.size)
        have HLT := Lib.hid (fun k hk => (World.ownsRow.lt HA3.out k hk).2)
        clear nA zA mA hown hst h100 hTpos HTC HTP HT O1 HA HA3
        generalize hAB : w3.heap.size = AB at *
        go_wp2_with fail
        go_loopg [67] T.length (fun gg s67 W => ∃ (i : Nat) (A : List Int), i + gg = T.length ∧ s67 = .int .i64 i ∧ Hid (AbSt wA W T AB i 0 A))
        case atStart => exact ⟨0, _, by omega, rfl, HST⟩
        case round =>
          obtain ⟨i, A, hig, rfl, hS⟩ := hrel
          have hi : i ≤ T.length := by omega
          have HGK := Lib.hid hig
          clear hig
          by_cases hlt : i < T.length
          · have d2 : decide ((i : Int) < (T.length : Int)) = true := decide_eq_true (by omega)
            have hrow := (HAA.out.kept hS.out.mod (fun q hq hm => by have := HLT.out q hq; simp at hm; omega)).row
            obtain ⟨b1, o1, rfl, hc1, hr1⟩ := row_node hrow hlt
            have hn : T[i]? = some T[i] := List.getElem?_eq_getElem hlt
            generalize T[i] = n at hr1 hn
            have LD1 := Lib.hid (run_loadAt_mid (P := Tryd.prog) wr b1 (o1 + i * 9) 34 (encNz n) _ hr1 Tryd.underlying34 rfl (by rw [sizeNode]; rfl))
            obtain ⟨wx, hwx, nx, zx, mx⟩ := alloc_named2 wr (.cells #[.int .u8 0, .int .i64 0, .int .i64 0, .string ⟨#[]⟩, .int .i64 0, .int .i64 0, .int .i64 0, .int .i64 0, .int .i64 0] 34)
            obtain ⟨wy, ry, my, ny⟩ := store_w (P := Tryd.prog) (c := (encNz n).toArray) 34 nx rfl (by rw [sizeNode]; rfl) (by rw [List.all_toArray, List.all_eq_true]; exact encNz_one _)
            have RY := Lib.hid ry
            have hAr : AB < wr.heap.size := Nat.lt_of_lt_of_le (by have := HZ.out.1; omega) hS.out.mod.size
            have hSy : AbSt wA wy T AB i 0 A := by
              have mxy : Mod [] wr wy := mod_on mx my (by simp)
              exact ⟨hS.out.own.kept0 mxy, hS.out.abv, mod_on hS.out.mod mxy (by simp)⟩
            have LD2 := Lib.hid (show (Instr.loadAt 32 (.pointer (some ⟨wr.heap.size, 5, none⟩))).run Tryd.prog wy = .ok (.agg #[.int .i64 n.k0, .int .i64 n.k1, .int .i64 n.k2]) wy from run_loadAt_mid (P := Tryd.prog) wy wr.heap.size 5 32 [.int .i64 n.k0, .int .i64 n.k1, .int .i64 n.k2] _ (fun j u hu => by
              have hj : j < 3 := by have := (List.getElem?_eq_some_iff.1 hu).1; simpa using this
              rw [cell_blk ny]
              rcases j with _ | _ | _ | j
              · exact hu
              · exact hu
              · exact hu
              · omega) Tryd.underlying32 rfl (by rw [sizeArr3]; rfl))
            have HY := Lib.hid hSy
            have HN := Lib.hid hn
            clear hrow hr1 nx mx my ny ry hSy hn hS
            go_wp2_with (first | ((with_reducible refine xLoadAt rfl LD1.out ?_ ?_ ?_); exact rfl; exact rfl) | ((with_reducible refine xStoreAt rfl RY.out ?_ ?_ ?_ ?_); exact rfl; exact rfl; exact rfl) | ((with_reducible refine xLoadAt rfl LD2.out ?_ ?_ ?_); exact rfl; exact rfl))
            go_loopw [74] (fun s74 W => ∃ (j : Nat) (A : List Int), j ≤ 3 ∧ s74 = .int .i64 j ∧ Hid (AbSt wA W T AB i j A)) (fun s74 _ => 3 - (intOf s74).toNat)
            case atStart => exact ⟨0, A, by omega, rfl, HY⟩
            case round =>
              obtain ⟨j, A2, hj, rfl, hS⟩ := hrel
              by_cases hj3 : j < 3
              · have d3 : decide ((j : Int) < 3) = true := decide_eq_true (by omega)
                obtain ⟨k, hk⟩ : ∃ k, n.kids[j]? = some k := ⟨_, List.getElem?_eq_getElem (show j < n.kids.length from hj3)⟩
                have hkid := HW.out.kid HN.out hk
                have HIX := Lib.hid (run_index_arr (P := Tryd.prog) wr 32 3 3 _ #[.int .i64 n.k0, .int .i64 n.k1, .int .i64 n.k2] j Tryd.underlying32 Tryd.underlying3 rfl sizeInt hj3 (v := .int .i64 k) (by
                  rcases j with _ | _ | _ | j
                  · cases hk; rfl
                  · cases hk; rfl
                  · cases hk; rfl
                  · omega))
                have p1 : decide ((i : Int) ≤ k) = false := decide_eq_false (by omega)
                have p2 : decide (k < -1) = false := decide_eq_false (by omega)
                by_cases hneg : k < 0
                · have p3 : decide ((0 : Int) ≤ k) = false := decide_eq_false (by omega)
                  have HNX := Lib.hid (show AbSt wA wr T AB i (j + 1) A2 from ⟨hS.out.own, hS.out.abv.none HN.out hk hneg, hS.out.mod⟩)
                  clear hk hkid hneg hS
                  go_wp2_with ((with_reducible refine xIndexA rfl HIX.out ?_ ?_ ?_ ?_); exact rfl; exact rfl)
                  go_roundw
                  case rel => exact ⟨j + 1, A2, by omega, by go_num, HNX⟩
                  case measure => simp [intOf]; omega
                · obtain ⟨v, rfl⟩ : ∃ v : Nat, k = v := ⟨k.toNat, by omega⟩
                  have hvT : v < T.length := by omega
                  have hvA : v < A2.length := by rw [hS.out.abv.1]; exact hvT
                  have hlow := hS.out.abv.low (by have := HX3.out.2; omega) hvA hi
                  obtain ⟨cA, fA⟩ := hS.out.own.cell encI_len (i := v) (j := 0) hvA (by omega) (u := .int .i64 A2[v]) rfl
                  have hset := hS.out.own.set encI_len (i := v) (j := 0) hvA (by omega) (u := .int .i64 (A2[v] + 1)) (y := A2[v] + 1) rfl
                  have hkd := hS.out.abv.kid HN.out hk rfl hvA
                  simp only [Nat.mul_one, Nat.add_zero] at cA fA hset
                  obtain ⟨wz, hwz⟩ : ∃ D, wr.setCell ⟨AB, v, none⟩ (.int .i64 (A2[v] + 1)) = D := ⟨_, rfl⟩
                  have mz : Mod [AB] wr (wr.setCell ⟨AB, v, none⟩ (.int .i64 (A2[v] + 1))) := (Mod.refl _ _).setCell (by simp) _
                  rw [hwz] at hset mz
                  have HNX := Lib.hid (show AbSt wA wz T AB i (j + 1) (A2.set v (A2[v] + 1)) from ⟨by rw [List.length_set]; exact hset, hkd, hS.out.mod.trans mz⟩)
                  have hvi : v < i := by omega
                  have p3 : decide ((0 : Int) ≤ (v : Int)) = true := decide_eq_true (by omega)
                  have p4 : decide ((v : Int) < 0) = false := decide_eq_false (by omega)
                  have p5 : decide ((T.length : Int) ≤ (v : Int)) = false := decide_eq_false (by omega)
                  have hwr : IntKind.i64.wrap (A2[v] + 1) = A2[v] + 1 := by rw [IntKind.wrap_i64]; omega
                  generalize A2.set v (A2[v] + 1) = A3 at HNX
                  generalize A2[v] = av at cA hwz hwr hlow
                  clear hk hkid hneg hS hset hkd mz hvA
                  go_wp2_with ((with_reducible refine xIndexA rfl HIX.out ?_ ?_ ?_ ?_); exact rfl; exact rfl)
                  go_roundw
                  case rel => exact ⟨j + 1, A3, by omega, by go_num, HNX⟩
                  case measure => simp [intOf]; omega
              · have d3 : decide ((j : Int) < 3) = false := decide_eq_false (by omega)
                obtain rfl : j = 3 := by omega
                have HNX := Lib.hid (show AbSt wA wr T AB (i + 1) 0 A2 from ⟨hS.out.own, hS.out.abv.next HN.out, hS.out.mod⟩)
                have h100 := HX3.out.2
                have HGL := Lib.hid (show gk - 1 < gk by have := HGK.out; omega)
                have HGM := Lib.hid (show i + 1 + (gk - 1) = T.length by have := HGK.out; omega)
                go_wp2_with fail
                go_roundg (gk - 1)
                case measure => exact HGL.out
                case rel => exact ⟨i + 1, A2, HGM.out, by go_num, HNX⟩
          · have d2 : decide ((i : Int) < (T.length : Int)) = false := decide_eq_false (by omega)
            obtain rfl : i = T.length := by omega
            have HF := Lib.hid (hS.out.abv.done HW.out)
            have HMW := Lib.hid (mod_on HMA.out hS.out.mod (by simp only [List.mem_singleton]; rintro x rfl; exact HZ.out.2))
            have HO := Lib.hid hS.out.own
            have h100 := HX3.out.2
            clear HGK hi hlt hS
            go_wp2_with fail
            go_loopg [96] T.length (fun gg s96 W => ∃ i : Nat, i + gg = T.length ∧ s96 = .int .i64 i ∧ W = wr)
            case atStart => exact ⟨0, by omega, rfl, rfl⟩
            case round =>
              obtain ⟨i, hig, rfl, rfl⟩ := hrel
              by_cases hlt : i < T.length
              · have d2 : decide ((i : Int) < (T.length : Int)) = true := decide_eq_true (by omega)
                have hiA : i < A.length := by rw [HF.out.1]; exact hlt
                obtain ⟨cA, fA⟩ := HO.out.cell encI_len (i := i) (j := 0) hiA (by omega) (u := .int .i64 A[i]) rfl
                have hval := HF.out.2 i hiA
                simp only [Nat.mul_one, Nat.add_zero] at cA
                have p4 : decide ((i : Int) < 0) = false := decide_eq_false (by omega)
                have p5 : decide ((T.length : Int) ≤ (i : Int)) = false := decide_eq_false (by omega)
                have hwr : IntKind.i64.wrap ((T.length : Int) - 1) = (T.length : Int) - 1 := by rw [IntKind.wrap_i64]; omega
                have HIG := Lib.hid hig
                have HGL := Lib.hid (show gk - 1 < gk by omega)
                have HGM := Lib.hid (show i + 1 + (gk - 1) = T.length by omega)
                by_cases hlast : i + 1 < T.length
                · rw [if_pos hlast] at hval
                  rw [hval] at cA
                  have p6 : decide ((i : Int) < (T.length : Int) - 1) = true := decide_eq_true (by omega)
                  clear hval hiA hig
                  go_wp2_with fail
                  go_roundg (gk - 1)
                  case measure => exact HGL.out
                  case rel => exact ⟨i + 1, HGM.out, by go_num, rfl⟩
                · rw [if_neg hlast] at hval
                  rw [hval] at cA
                  have p6 : decide ((i : Int) < (T.length : Int) - 1) = false := decide_eq_false (by omega)
                  clear hval hiA hig
                  go_wp2_with fail
                  go_roundg (gk - 1)
                  case measure => exact HGL.out
                  case rel => exact ⟨i + 1, HGM.out, by go_num, rfl⟩
              · have d2 : decide ((i : Int) < (T.length : Int)) = false := decide_eq_false (by omega)
                have HGW := Lib.hid (HG.out.kept0 HMW.out)
                clear hig
                go_wp2_with fail
                refine (CK.out _ HGW.out).mono ?_
                rintro e w9 ⟨rfl, m9⟩
                have HM9 := Lib.hid (HMW.out.trans m9)
                clear m9
                go_wp2_with fail
                first | go_ret3 | go_ret2 | go_ret
                exact ⟨rfl, HM9.out⟩
      · rw [h2] at HB ⊢
        dsimp only at HB ⊢
        clear h2
        go_wp2_with fail
        refine (CK.out _ (HG.out.kept0 HM2.out)).mono ?_
        rintro e w3 ⟨rfl, m3⟩
        have HM3 := Lib.hid (HM2.out.trans m3)
        clear m3
        go_wp2_with fail
        first | go_ret3 | go_ret2 | go_ret
        exact ⟨rfl, HM3.out⟩
    · obtain ⟨a1, c1, rfl⟩ := HA.out.lens
      generalize treeZ (40 :: (l ++ [41])) = R2 at HB ⊢
      obtain ⟨q2, x2, T2⟩ := R2
      dsimp only at HB ⊢
      have dx : (x != 0) = true := by simpa using hx
      go_wp2_with fail
      refine (CK.out _ (HG.out.kept0 HM2.out)).mono ?_
      rintro e w3 ⟨rfl, m3⟩
      have HM3 := Lib.hid (HM2.out.trans m3)
      clear m3
      go_wp2_with fail
      first | go_ret3 | go_ret2 | go_ret
      exact ⟨rfl, HM3.out⟩
end Go.Proofs.YtdaokholmlpfkaaDoor
namespace Go.Proofs.YtdaokholmlpfkaaDoor
open Go.ChangeShapes Go.WideShapes Go.ChangeAt Go.RowKit
set_option linter.unusedSimpArgs false
set_option linter.unusedVariables false

theorem own : ownKnob Tryd.prog.godebug = none := by kernel_rfl
theorem laidOut : laidOutB Tryd.prog = true := by kernel_rfl
theorem trodAll_stays {H : Type} {enc : TypeId × Value → H} {P : Program} (hl : laidOutB P = true) {W W' : World} (hb : Below W.heap.size W W') : ∀ {ts : List TypeId} {vs : List Value} {ds : List (DataW H)} {ps : List MemPlace},
    (∀ t ∈ ts, P.readableRec t = true ∧ t < P.types.size) → DataW.TrodAll enc P W 0 (fun _ => true) true ts vs ds ps → (∀ p ∈ ps, p.block < W.heap.size) →
    DataW.TrodAll enc P W' 0 (fun b => decide (b < W.heap.size)) true ts vs ds ps
  | [], _, _, _, _, h, _ => by
    obtain ⟨rfl, rfl, rfl⟩ := trodAll_nil h
    exact trodAll_mk0
  | t :: ts, vs, ds, ps, hr, h, hlt => by
    obtain ⟨v, vs1, d, ds1, p, q, rfl, rfl, rfl, h1, h2⟩ := trodAll_cons h
    exact trodAll_cons_mk (Below.trod hl (hr t (by simp)).1 (hr t (by simp)).2 h1 hb (fun x hx => hlt x (by simp [hx])))
      (trodAll_stays hl hb (fun t ht => hr t (by simp [ht])) h2 (fun x hx => hlt x (by simp [hx])))
theorem law_post {H : Type} {enc : TypeId × Value → H} {fn : Func} {s : ChangeSpec} {W W' : World} {args : Array Value} {ds gs : List (DataW H)} {before : List MemPlace}
    (hr : ∀ t ∈ fn.params.toList, Tryd.prog.readableRec t = true ∧ t < Tryd.prog.types.size) (hW : DataW.Whole enc Tryd.prog fn.params.toList s.vars false W args.toList ds gs before) (hb : Below W.heap.size W W')
    (hv : s.vars = []) (hres : fn.resultTypes = #[4]) (hfn : s.fn H (ds ++ gs) = { results := [.lit (.bool true)], args := ds }) : s.post enc Tryd.prog fn false true false false W args (.bool true) W' := by
  have hlt := hW.lt
  have hW0 := hW
  obtain ⟨p, q, hA, hV, rfl, _, _⟩ := hW
  rw [hv] at hV
  obtain ⟨rfl, rfl⟩ := trodVars_none hV
  refine ⟨ds, [], p ++ [], [], p, [], hW0, ?_, ?_, ?_, hb.frame _, fun h => by cases h⟩
  · rw [hfn, hres]
    exact trodAll_cons_mk (shut_bool Tryd.underlying4 _) trodAll_mk0
  · rw [hfn]
    exact trodAll_stays laidOut hb hr hA (fun x hx => hlt x (by simp [hx]))
  · rw [hfn, hv]
    exact rfl
/-- An argument that is a slice of integers. -/
theorem ints_arg {P : Program} {H : Type} {enc : TypeId × Value → H} {W : World} {t e : TypeId} {k : IntKind} (ht : P.underlying t = some (.slice e)) (he : P.underlying e = some (.int k)) (hc : P.cellsOf e = 1) {v : Value} {d : DataW H} {ps : List MemPlace}
    (hv : ∃ a n c, v = .slice a n c) (h : DataW.Trod enc P W 0 (fun _ => true) true t v d ps) :
    ∃ (a : Option Addr) (l : List Int) (cap : Nat), v = .slice a l.length cap ∧ l.length ≤ maxLen ∧ (∀ n ∈ l, (Lit.int k n).wf = true) ∧ (l = [] ∨ ∃ b o, a = some ⟨b, o, none⟩ ∧ W.rangeAt b o (l.map (Value.int k))) := by
  obtain ⟨a, n, c, rfl⟩ := hv
  obtain ⟨fuel, hf⟩ := h
  rcases open_ints ht he hc hf with ⟨hcs, _⟩ | ⟨ad, len, cap, zs, hcs, _, hl, hm, hz, _, hcell, hwz⟩
  · simp [Value.cells] at hcs
    obtain ⟨rfl, rfl, rfl⟩ := hcs
    exact ⟨none, [], 0, rfl, by simp, by simp, .inl rfl⟩
  · simp [Value.cells] at hcs
    obtain ⟨rfl, rfl, rfl⟩ := hcs
    have hzl : zs.length = c := by simpa using hz
    have htl : (zs.take n).length = n := by simp; omega
    refine ⟨some ad, zs.take n, c, by rw [htl], by rw [htl]; omega, fun x hx => hwz x (List.mem_of_mem_take hx), ?_⟩
    by_cases hn : n = 0
    · left; simp [hn]
    · right
      have h0 := hcell 0 (by omega)
      obtain ⟨b, o, sp⟩ := ad
      have hsp : sp = none := by
        have e0 : (⟨b, o, sp⟩ : Addr).add 0 = ⟨b, o, sp⟩ := rfl
        rw [e0] at h0
        cases sp with
        | none => rfl
        | some s =>
          simp only [World.cell?] at h0
          split at h0 <;> simp at h0
      subst hsp
      refine ⟨b, o, rfl, fun j v hj => ?_⟩
      have hjn : j < n := by
        have := (List.getElem?_eq_some_iff.1 hj).1
        simp at this
        omega
      have := hcell j (by omega)
      rw [Addr.add_mid] at this
      rw [this, ← hj]
      have hjz : j < zs.length := by omega
      simp [List.getElem?_take, hjn, hjz]
end Go.Proofs.YtdaokholmlpfkaaDoor
namespace Go.Proofs.YtdaokholmlpfkaaDoor
open Go.ChangeShapes Go.WideShapes Go.ChangeAt Go.RowKit Go.ChangeMaps Go.Deep
set_option linter.unusedSimpArgs false
set_option linter.unusedVariables false

/-- a row with listed variables, its contract handed the world's shape -/
theorem returns_and_shape {H : Type} {enc : TypeId × Value → H} {a : Assume} {C : Checked} {os : Os} {f : FuncId} {fn : Func} {s : ChangeSpec} {conds : List PathCond} {apart fresh handsOn again : Bool} {X : World → Array Value → Prop}
    (hX : ∀ (w w' : World) (args : Array Value), w.heap = w'.heap → X w args → X w' args)
    (own : ownKnob C.prog.godebug = none) (started : os.Started) (noInit : C.prog.inits.idxOf? f = none) (hfn : C.prog.funcs[f]? = some fn)
    (witness : ∃ (w : World) (tape : Tape) (i : Input), w.os = os ∧ (w.forCall tape i).Shaped C.prog ∧ i.vars = [] ∧ Input.okWide C.prog (w.forCall tape i) .any w.heap.size f i ∧
      ((s.pre enc C.prog fn conds apart (w.forCall tape i).memory i.args ∧ X (w.forCall tape i).memory i.args) ∧ sizedMet enc C.prog fn (OpenSpec.ofChange s) apart (w.forCall tape i).memory i.args) ∧ a.holds C.prog (lone (Frame.enter C.prog f i.args .normal) [] (w.forCall tape i)))
    (contract : ∀ (W : World) (base : Nat) (args : Array Value) (ds gs : List (DataW H)) (before : List MemPlace),
      (∀ (j : Nat) t v, fn.params[j]? = some t → args[j]? = some v → Value.okWide C.prog W .any base t v) →
      DataW.Whole enc C.prog fn.params.toList s.vars apart W args.toList ds gs before → X W args → W.ShapedOpen C.prog →
      Calls C.prog f args W fun e W' => ∃ v, e = .returned v ∧ s.post enc C.prog fn apart fresh handsOn again W args v W') :
    ReturnsInHanded a C os f .any (fun w args => (s.pre enc C.prog fn conds apart w args ∧ X w args) ∧ sizedMet enc C.prog fn (OpenSpec.ofChange s) apart w args) (s.post enc C.prog fn apart fresh handsOn again) := by
  refine returnsInHanded_of_calls own started noInit witness ?_
  intro w tape i _ hsh _ hok hpre _
  obtain ⟨_, _, _, fn2, hf2, _, _, _, _, hval⟩ := hok
  obtain rfl : fn2 = fn := Option.some.inj (hf2.symm.trans hfn)
  obtain ⟨⟨⟨ds, gs, before, hw, _⟩, hx⟩, _⟩ := hpre
  refine (contract (w.forCall tape i) w.heap.size i.args ds gs before hval (DataW.Whole.of_heap (w' := w.forCall tape i) (by rfl) hw) (hX _ _ _ (by rfl) hx) hsh).mono ?_
  rintro e W2 ⟨v, rfl, hp⟩
  exact ChangeSpec.post_blind hp
def laid15 : List (String × DataW Unit) := Rows.parserBracketsRow.laid
theorem g_range : Tryd.prog.globalNamed "strconv.ErrRange" = some 3 := by kernel_rfl
theorem gt_range : (Tryd.prog.globals[3]?).map (·.type) = some 76 := by kernel_rfl
theorem g_space : Tryd.prog.globalNamed "strings.asciiSpace" = some 0 := by kernel_rfl
theorem gt_space : (Tryd.prog.globals[0]?).map (·.type) = some 97 := by kernel_rfl
theorem c_str : Tryd.prog.cellsOf 9 = 1 := by kernel_rfl
theorem c_es : Tryd.prog.cellsOf 118 = 1 := by kernel_rfl
theorem star_es : "*" ++ "errors.errorString" = "*errors.errorString" := by decide
theorem row_es (u : TypeId) (h : Tryd.prog.typeName? 3 u = some "*errors.errorString") : u = 116 :=
  typeName_ptr_named (nm := "errors.errorString") (by rw [star_es]; kernel_rfl) (by kernel_rfl) (by decide) u (by rw [star_es]; exact h)
theorem laid_plain (W : World) (h : laidMetH Tryd.prog laid15 W) : laidMet Tryd.prog laid15 W := by
  rw [MakeChecks.laidMetH_plain _ _ _ (by kernel_rfl)] at h
  exact h
theorem space_data : (Rows.laid_strings_asciiSpace : DataW Unit) = Lib.tabData .u8 Lib.asciiSpaceTab := by kernel_rfl
theorem gl_of {W : World} (h : laidMetH Tryd.prog laid15 W) (hs : W.ShapedOpen Tryd.prog) : Gl W := by
  have hl : laidMet Tryd.prog [("math/bits.deBruijn32tab", Rows.laid_math_bits_deBruijn32tab), ("math/bits.deBruijn64tab", Rows.laid_math_bits_deBruijn64tab), ("internal/strconv.uint64pow10", Rows.laid_internal_strconv_uint64pow10), ("strconv.ErrRange", Rows.laid_strconv_ErrRange), ("strconv.ErrSyntax", Rows.laid_strconv_ErrSyntax), ("unicode.White_Space", Rows.laid_unicode_White_Space), ("strings.asciiSpace", Rows.laid_strings_asciiSpace)] W := laid_plain W h
  refine ⟨?_, ?_, ?_, ?_⟩
  · have h8 : (((begin Tryd.prog (fun _ _ => 0) default).world.heap[8]?).bind Obj.row?).isSome = true := by kernel_rfl
    obtain ⟨⟨zero, t⟩, hz⟩ := Option.isSome_iff_exists.1 h8
    obtain ⟨cs, hc, _⟩ := hs.1 8 zero t (of_decide_eq_true (by kernel_rfl)) hz
    exact lt_of_heap hc
  · exact cell_of_shapedOpen_int (zero := #[.int .i64 0]) (t := 3) hs (of_decide_eq_true (by kernel_rfl)) (by kernel_rfl) rfl (by kernel_rfl) (by kernel_rfl) Tryd.underlying3
  · obtain ⟨a, s, hv, _⟩ := laid_sentinel hl.tail.tail.tail g_range gt_range Tryd.underlying76 row_es Tryd.underlying116 Tryd.underlying118 rfl rfl Tryd.underlying9 c_es c_str
    exact ⟨_, _, hv⟩
  · have ht := hl.tail.tail.tail.tail.tail.tail
    rw [space_data] at ht
    exact Lib.tabIs_of_head g_space gt_space Tryd.underlying97 Tryd.underlying5 (by kernel_rfl) (by kernel_rfl) ht
end Go.Proofs.YtdaokholmlpfkaaDoor
namespace Go.Proofs.YtdaokholmlpfkaaDoor
open Go.ChangeShapes Go.WideShapes Go.ChangeAt Go.RowKit Go.ChangeMaps Go.Deep
set_option linter.unusedSimpArgs false
set_option linter.unusedVariables false

theorem door15 (os : Os) (args : Array Value) : laidMetH Tryd.prog laid15 ((World.doorLaid Tryd.prog 86 os).forCall (fun _ _ => 0) ⟨#[], args, []⟩).memory :=
  laidMetH_of_parts3 (fuel := 8) (laidMet_of_run' 8 (by kernel_rfl) (by kernel_rfl)) (by kernel_rfl) (by kernel_rfl)
set_option maxRecDepth 100000 in
theorem brackets_lifted (os : Os) (started : os.Started) (H : Type) (enc : TypeId × Value → H) :
    ReturnsInHanded {} Tryd.checked os 3 .any (fun w args => (Rows.parserBracketsSpec.pre enc Tryd.prog Tryd.f3 [] false w args ∧ laidMetH Tryd.prog laid15 w) ∧ sizedMet enc Tryd.prog Tryd.f3 (OpenSpec.ofChange Rows.parserBracketsSpec) false w args)
      (Rows.parserBracketsSpec.post enc Tryd.prog Tryd.f3 false true false false) := by
  refine returns_and_shape (C := Tryd.checked) (X := fun w _ => laidMetH Tryd.prog laid15 w) (fun _ _ _ hh h => h.of_heap hh) own started (by kernel_rfl) Tryd.func3
    (ChangeSpec.witness_shaped (enc := enc) (C := Tryd.checked) (os := os) (X := fun w _ => laidMetH Tryd.prog laid15 w) false (World.doorLaid Tryd.prog 86 os) #[.string ⟨#[]⟩] 8 rfl (World.shaped_of_RefB (by kernel_rfl) (by kernel_rfl)) (by kernel_rfl) (by kernel_rfl) (by kernel_rfl) (door15 os _)) ?_
  intro W base args ds gs before hval0 hW hL hS
  have hval : ∀ (j : Nat) t v, Tryd.f3.params[j]? = some t → args[j]? = some v → Value.okWide Tryd.prog W .any base t v := hval0
  have hW' := hW
  obtain ⟨p, q, hA0, hV, rfl, hfz, hnd⟩ := hW
  have hA : DataW.TrodAll enc Tryd.prog W 0 (fun _ => true) true Tryd.f3.params.toList args.toList ds p := hA0
  rw [Tryd.params3] at hA hval
  obtain ⟨v0, d0, rfl, rfl, h0⟩ := trodAll_one hA
  obtain ⟨rfl, rfl⟩ := trodVars_none hV
  obtain ⟨s, rfl, rfl, rfl, -⟩ := open_string Tryd.underlying9 (hval 0 9 v0 rfl rfl) h0
  clear hA0 hval0
  have hwalk := brackets15_at (gl_of hL hS) s.data.toList
  rw [← tx_of] at hwalk
  refine hwalk.mono fun e W' ⟨he, hg⟩ => ⟨_, he, law_post ?_ hW' hg.toBelow rfl rfl rfl⟩
  rw [Tryd.params3]
  simp only [List.mem_cons, List.not_mem_nil, or_false]
  rintro t rfl
  exact ⟨by kernel_rfl, of_decide_eq_true (by kernel_rfl)⟩
theorem brackets_holds : Rows.ParserBracketsSaid :=
  OpenClaim.holds_of_wide 3 Tryd.f3 rfl rfl rfl rfl rfl rfl rfl ⟨rfl, rfl, rfl, rfl, rfl⟩ rfl rfl rfl rfl rfl (by kernel_rfl) Tryd.func3 (by kernel_rfl)
    (of_decide_eq_true (by kernel_rfl)) (by unfold Func.isWrapper; first | (rw [if_pos (by decide +kernel)]; kernel_rfl) | (rw [if_neg (by decide +kernel)]; exact ⟨rfl, rfl⟩))
    (fun os started H enc _ => brackets_lifted os started H enc)
theorem brackets_card : Rows.ParserBracketsCardSaid :=
  Claim7.holds_tied_plain_at .later [] [.data, .data, .data, .sentinel, .sentinel, .listed, .data] true (true, "7fdba2e0f605cac8350ed57763deb5f68b003ba1e849713bef570be9a5458a45") true
    brackets_holds (fun _ h => by cases h) (by kernel_rfl) (fun _ h => by cases h) parserBrackets_row_tie rfl ⟨rfl, rfl⟩ (by kernel_rfl) rfl
    (fun f fn hf hfn => by
      obtain rfl : f = 3 := Option.some.inj ((show Tryd.prog.funcNamed "corrody/corrodylaw15.ParserBrackets" = some 3 by kernel_rfl).symm.trans hf) |>.symm
      obtain rfl : fn = Tryd.f3 := (Option.some.inj (Tryd.func3.symm.trans hfn)).symm
      exact ⟨by kernel_rfl, fun j t ht => by
        rw [Tryd.params3] at ht
        have h3 : t = 9 := by
          rcases j with _ | j
          · simpa using ht.symm
          · simp at ht
        subst h3
        exact (show Tryd.prog.wantsStandIn 9 = false by kernel_rfl)⟩)
    (by kernel_rfl)
#print axioms brackets_card
end Go.Proofs.YtdaokholmlpfkaaDoor

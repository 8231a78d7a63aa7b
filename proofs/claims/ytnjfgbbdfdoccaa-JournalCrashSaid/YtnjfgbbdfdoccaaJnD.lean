/- slices.Grow, slices.Concat, of bytes. -/
import Derived.Test.YtnjfgbbdfdoccaaRowH
import Derived.Test.YtnjfgbbdfdoccaaJnC
namespace Go.Proofs.Ytnjfgbbdfdoccaa
open Go.RowKit Go.ChangeMaps
set_option linter.unusedSimpArgs false
set_option linter.unusedVariables false
set_option maxRecDepth 20000

theorem own_cut0 {α : Type} {enc : α → List Value} {k : Nat} {E : TypeId} {w : World} {base g n c : Nat} {l : List α} (h : OwnR enc k E w base (.slice (some ⟨g, 0, none⟩) n c) l) : OwnR enc k E w base (.slice (some ⟨g, 0, none⟩) 0 c) [] := by
  obtain ⟨h1, h2⟩ := h
  rcases h2 with ⟨h2, _⟩ | ⟨g', cap, cur, e, h3, h4, h5, h6, h7, h8⟩
  · cases h2
  · cases e
    exact ⟨by simp [flat], .inr ⟨g, c, cur, rfl, h3, h4, Nat.zero_le _, h6, h7, by simp [flat]⟩⟩
set_option maxHeartbeats 1000000 in
theorem slGrow_at (n : Nat) (hn : n ≤ 536870912) (w : World) :
    Calls Try.prog 60 #[.slice none 0 0, .int .i64 n] w fun e w' => ∃ v, e = .returned v ∧ OwnR enc8 1 5 w' w.heap.size v [] ∧ Mod [] w w' := by
  rcases Nat.eq_zero_or_pos n with h0 | h0
  · subst h0
    go_enter Try.func60, Try.ntmps60
    go_wp2_with fail
    go_ret
    exact ⟨_, rfl, OwnR.nil_ _ _, Mod.refl _ _⟩
  · obtain ⟨v, w', ra, ho, gr⟩ := own8_zeros (w := w) (base := w.heap.size) (v := .slice none 0 0) (l := []) (OwnR.nil_ _ _) (Nat.le_refl _) n (by simp; omega) 33
    obtain ⟨a, c, rfl⟩ := ho.lens
    have hm : Mod [] w w' := Mod.into' (Mod.refl _ _) gr.mod (fun k hk => by simp [blk, Value.ownBlock] at hk)
    obtain ⟨g, rfl⟩ : ∃ g, a = some ⟨g, 0, none⟩ := by
      obtain ⟨h1, h2⟩ := ho
      rcases h2 with ⟨h2, h3⟩ | ⟨g', cap, cur, e, _⟩
      · simp at h3; omega
      · cases e; exact ⟨_, rfl⟩
    have HO := Lib.hid (own_cut0 ho)
    have HM := Lib.hid hm
    have RA := Lib.hid ra
    have h1 : decide (0 < (n : Int)) = true := decide_eq_true (by omega)
    clear ho gr hm ra
    simp only [List.nil_append, List.length_replicate] at RA
    go_enter Try.func60, Try.ntmps60
    go_wp2_with ((with_reducible refine xAppendAt RA.out rfl rfl ?_ ?_ ?_ ?_); exact rfl; exact rfl; exact rfl)
    go_ret
    exact ⟨_, rfl, HO.out, HM.out⟩
/-- slices of bytes, as they lie -/
structure BsAt (w : World) (v : Value) (hs : List SlH) (ls : List (List Int)) : Prop where
  row : RowAt encH w v hs
  len : hs.length = ls.length
  rel : ∀ (i : Nat) (h : SlH) (l : List Int), hs[i]? = some h → ls[i]? = some l → RowAt enc8 w h.val l ∧ h.n = l.length
theorem BsAt.kept0 {w w' : World} {v : Value} {hs : List SlH} {ls : List (List Int)} (h : BsAt w v hs ls) (m : Mod [] w w') : BsAt w' v hs ls :=
  ⟨h.row.kept0 m, h.len, fun i x o h1 h2 => ⟨(h.rel i x o h1 h2).1.kept0 m, (h.rel i x o h1 h2).2⟩⟩
theorem BsAt.at_ {w : World} {v : Value} {hs : List SlH} {ls : List (List Int)} (h : BsAt w v hs ls) {i : Nat} (hi : i < ls.length) : ∃ x, hs[i]? = some x ∧ RowAt enc8 w x.val ls[i] ∧ x.n = ls[i].length := by
  have h2 : i < hs.length := by rw [h.len]; exact hi
  exact ⟨hs[i], List.getElem?_eq_getElem h2, h.rel i _ _ (List.getElem?_eq_getElem h2) (List.getElem?_eq_getElem hi)⟩
theorem flat_take_len {ls : List (List Int)} (n : Nat) : (ls.take n).flatten.length ≤ ls.flatten.length := by
  conv => rhs; rw [← List.take_append_drop n ls]
  rw [List.flatten_append, List.length_append]
  omega
set_option maxHeartbeats 4000000 in
theorem slConcat_at {w : World} {v : Value} {hs : List SlH} {ls : List (List Int)} (h : BsAt w v hs ls) (hn : ls.length ≤ 1073741824) (hl : ls.flatten.length ≤ 536870912) :
    Calls Try.prog 38 #[v] w fun e w' => ∃ u, e = .returned u ∧ OwnR enc8 1 5 w' w.heap.size u ls.flatten ∧ Mod [] w w' := by
  obtain ⟨va, vc, rfl⟩ := h.row.form
  rw [h.len]
  have H := Lib.hid h
  have HL := Lib.hid hl
  clear h hl
  go_enter Try.func38, Try.ntmps38
  go_wp2_with fail
  go_loop [3, 11] (fun s3 s11 => ∃ n s : Nat, n ≤ ls.length ∧ s11 = .int .i64 n ∧ s3 = .int .i64 s ∧ s ≤ 536870912 ∧ Hid (s = (ls.take n).flatten.length)) (fun _ s11 => ls.length - (intOf s11).toNat)
  case atStart => exact ⟨0, 0, by omega, rfl, rfl, by omega, Lib.hid rfl⟩
  case round =>
    obtain ⟨n, s, hn2, rfl, rfl, hs, HSZ⟩ := hrel
    by_cases hlt : n < ls.length
    · obtain ⟨x, hx, hr, hxn⟩ := H.out.at_ hlt
      obtain ⟨q, o, heq, hc, hg⟩ := RowAt.get encH_len H.out.row (i := n) (by rw [H.out.len]; exact hlt)
      cases heq
      have p0 := hg 0 x.val (by omega) (by rw [(List.getElem?_eq_some_iff.1 hx).2]; rfl)
      simp only [Nat.mul_one, Nat.add_zero] at p0
      have HF := Lib.hid (show (ls.take (n + 1)).flatten.length = (ls.take n).flatten.length + x.n from by
        rw [List.take_succ_eq_append_getElem hlt, List.flatten_append, List.length_append, hxn]
        simp)
      have hb := Nat.le_trans (flat_take_len (ls := ls) (n + 1)) HL.out
      rw [HF.out, ← HSZ.out] at hb
      have HF := Lib.hid (show s + x.n = (ls.take (n + 1)).flatten.length from by rw [HF.out, HSZ.out])
      have h1 : decide ((n : Int) < (ls.length : Int)) = true := decide_eq_true (by omega)
      have h2 : decide ((n : Int) < 0) = false := decide_eq_false (by omega)
      have h3 : decide ((ls.length : Int) ≤ n) = false := decide_eq_false (by omega)
      obtain ⟨xa, xn, xc⟩ := x
      simp only [SlH.val] at p0 hb HF
      have hb : s + xn ≤ 536870912 := by omega
      have h4 : decide ((s : Int) + xn < 0) = false := decide_eq_false (by omega)
      have h5 : decide (((s + xn : Nat) : Int) < 0) = false := decide_eq_false (by omega)
      clear hg hc hr hx hxn
      go_wp2_with fail
      go_round
      case rel => exact ⟨n + 1, s + xn, by omega, by go_num, by go_num, hb, HF⟩
      case measure => simp [intOf]; omega
    · obtain rfl : n = ls.length := by omega
      have CG := Lib.hid (slGrow_at s hs w)
      have h1 : decide ((ls.length : Int) < (ls.length : Int)) = false := decide_eq_false (by omega)
      go_wp2_with fail
      refine CG.out.mono ?_
      rintro e w1 ⟨g, rfl, hg, m1⟩
      have HS := Lib.hid (⟨hg, m1⟩ : _ ∧ _)
      clear CG hg m1
      go_wp2_with fail
      go_loopw [6, 27] (fun s6 s27 W => ∃ n : Nat, n ≤ ls.length ∧ s27 = .int .i64 n ∧ Hid (OwnR enc8 1 5 W w.heap.size s6 (ls.take n).flatten ∧ Mod [] w W)) (fun _ s27 _ => ls.length - (intOf s27).toNat)
      case atStart => exact ⟨0, by omega, rfl, HS⟩
      case round =>
        obtain ⟨n, hn2, rfl, hT⟩ := hrel
        clear HS
        obtain ⟨q1, q2⟩ := hT.out
        by_cases hlt : n < ls.length
        · have HK := H.out.kept0 q2
          obtain ⟨x, hx, hr, hxn⟩ := HK.at_ hlt
          obtain ⟨q, o, heq, hc, hg⟩ := RowAt.get encH_len HK.row (i := n) (by rw [H.out.len]; exact hlt)
          cases heq
          have p0 := hg 0 x.val (by omega) (by rw [(List.getElem?_eq_some_iff.1 hx).2]; rfl)
          simp only [Nat.mul_one, Nat.add_zero] at p0
          have hF : (ls.take (n + 1)).flatten = (ls.take n).flatten ++ ls[n] := by
            rw [List.take_succ_eq_append_getElem hlt, List.flatten_append]
            simp
          have hb := Nat.le_trans (flat_take_len (ls := ls) (n + 1)) HL.out
          rw [hF, List.length_append] at hb
          obtain ⟨v', w', ra, ho', gr⟩ := own_append (P := Try.prog) (ty := 33) (tx := 33) elem8 enc8_len q1 q2.size (hr.src enc8_len enc8_one Try.underlying33) (by omega) (by omega)
          obtain ⟨a', n', c', rfl⟩ : ∃ a n c, v' = .slice a n c := by obtain ⟨a, c, e⟩ := ho'.lens; exact ⟨a, _, c, e⟩
          obtain ⟨ua, uc, rfl⟩ := q1.lens
          rw [← hF] at ho'
          have HN := Lib.hid (show OwnR enc8 1 5 w' w.heap.size (.slice a' n' c') (ls.take (n + 1)).flatten ∧ Mod [] w w' from ⟨ho', Mod.into' q2 gr.mod (fun k hk => .inl (by rw [mem_blk] at hk; exact (World.ownsRow.lt q1 k hk).1))⟩)
          obtain ⟨xa, xn, xc⟩ := x
          simp only [SlH.val] at p0 ra
          have RA := Lib.hid ra
          have h1 : decide ((n : Int) < (ls.length : Int)) = true := decide_eq_true (by omega)
          have h2 : decide ((n : Int) < 0) = false := decide_eq_false (by omega)
          have h3 : decide ((ls.length : Int) ≤ n) = false := decide_eq_false (by omega)
          clear hg hc hr hx hxn HK q1 q2 hF hb ra ho' gr hT
          go_wp2_with ((with_reducible refine xAppendAt RA.out rfl rfl ?_ ?_ ?_ ?_); exact rfl; exact rfl; exact rfl)
          go_roundw
          case rel => exact ⟨n + 1, by omega, by go_num, HN⟩
          case measure => simp [intOf]; omega
        · have h1 : decide ((n : Int) < (ls.length : Int)) = false := decide_eq_false (by omega)
          have HE := Lib.hid (show OwnR enc8 1 5 wr w.heap.size u6 ls.flatten ∧ Mod [] w wr from by
            rw [List.take_of_length_le (by omega)] at q1
            exact ⟨q1, q2⟩)
          clear q1 q2 hT
          go_wp2_with fail
          go_ret
          exact ⟨_, rfl, HE.out⟩
end Go.Proofs.Ytnjfgbbdfdoccaa

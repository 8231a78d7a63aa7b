/- RequestCuts: the walk. -/
import Derived.Test.YtnoookcfacmdkaaReqR
namespace Go.Proofs.Ytnoookcfacmdkaa
open Go.RowKit Go.ChangeMaps
set_option linter.unusedSimpArgs false
set_option linter.unusedVariables false
set_option maxRecDepth 20000

/-- A slice of the call's own, as a reader takes it. -/
theorem OwnB.rd {w : World} {base : Nat} {v : Value} {l : List Int} (h : OwnB w base v l) (hne : l ≠ []) (hl : l.length ≤ 140737488355328) : ∃ g cap, v = .slice (some ⟨g, 0, none⟩) l.length cap ∧ base ≤ g ∧ g < w.heap.size ∧ l.length ≤ cap ∧ cap ≤ maxLen ∧ w.rangeAt g 0 (bv l) := by
  obtain ⟨h1, h2⟩ := h
  rcases h2 with ⟨rfl, h0⟩ | ⟨g, cap, cur, rfl, hb, hg, hn, hc, hsz, ht⟩
  · exact absurd (List.length_eq_zero_iff.1 h0) hne
  · refine ⟨g, cap, rfl, hb, lt_of_heap hg, hn, hc, fun j u hu => ?_⟩
    have hjl := (List.getElem?_eq_some_iff.1 hu).1
    rw [Nat.zero_add, cell_blk hg, ← hu, ← ht, List.getElem?_take, if_pos (by simpa [bv] using hjl)]
    simp
theorem own_empty {w : World} {g : Nat} (hg : g = w.heap.size) : OwnB (w.alloc (.cells #[] 5)) g (.slice (some ⟨g, 0, none⟩) 0 0) [] := by
  subst hg
  exact ⟨rfl, .inr ⟨w.heap.size, 0, #[], rfl, Nat.le_refl _, heap_alloc_new w _, Nat.le_refl _, by simp, rfl, rfl⟩⟩
theorem place (a : Int) (L : Nat) (h0 : 0 < L) (h1 : L ≤ 40000) : ∃ p : Nat, p < L ∧ wrap64 ((IntKind.u64.wrap a).tmod (L : Int)) = (p : Int) := by
  have h2 := wrap_u64_nonneg a
  have h3 : (IntKind.u64.wrap a).tmod (L : Int) = IntKind.u64.wrap a % (L : Int) := Int.tmod_eq_emod_of_nonneg h2
  have h4 := Int.emod_nonneg (IntKind.u64.wrap a) (show (L : Int) ≠ 0 by omega)
  have h5 := Int.emod_lt_of_pos (IntKind.u64.wrap a) (show (0 : Int) < (L : Int) by omega)
  refine ⟨(IntKind.u64.wrap a % (L : Int)).toNat, by omega, ?_⟩
  rw [h3]
  generalize IntKind.u64.wrap a % (L : Int) = t at *
  unfold wrap64
  omega
set_option maxHeartbeats 4000000 in
theorem cuts_walk (r : RecR) (v : Value) (at_ more : Int) (w : World) (h : DosAt w v r.ds) (hf : ∀ d ∈ r.ds, d.Fit) (hl : r.ds.length ≤ 9223372036854775807) (hw : r.Wf) (hm0 : 0 ≤ more) (hm1 : more < 256) :
    Calls Try.prog 7 #[recV r v, .int .i64 at_, .int .u8 more] w fun e w' => e = .returned (.bool true) ∧ Mod [] w w' := by
  have H := Lib.hid h
  have HF := Lib.hid hf
  have HL := Lib.hid hl
  have HW := Lib.hid hw
  have hmb := (Mod.refl [] w).alloc (.cells #[.int .u8 r.k, v, .int .i64 r.a, .int .i64 r.b] 54)
  have hc0 := heap_alloc_new w (.cells #[.int .u8 r.k, v, .int .i64 r.a, .int .i64 r.b] 54)
  have HG := Lib.hid (great25_any r v _ (h.kept0 hmb) hf hl)
  have HMB := Lib.hid hmb
  have HC0 := Lib.hid hc0
  obtain ⟨x, c, rfl, _⟩ := h
  unfold recV at HG ⊢
  clear hf hl hw hmb hc0
  go_enter Try.func7, Try.ntmps7
  go_wp2_with fail
  refine HG.out.mono ?_
  rintro e w1 ⟨b, rfl, m1⟩
  have HM1 := Lib.hid (HMB.out.trans m1)
  have HC1 := Lib.hid (m1.heap HC0.out (by simp))
  have HLD := Lib.hid (load_blk (P := Try.prog) 54 HC1.out Try.underlying54 rfl sizeRecord)
  clear m1
  cases b
  · by_cases hm : r.may = true
    · have HEN := Lib.hid (encode_yes r _ w1 (H.out.kept0 HM1.out) HF.out HL.out hm)
      have HMAY := Lib.hid hm
      unfold recV at HEN
      clear hm
      go_wp2_with ((with_reducible refine xLoadAt rfl HLD.out ?_ ?_ ?_); exact rfl; exact rfl)
      refine HEN.out.mono ?_
      rintro e w2 ⟨v2, rfl, o2, m2⟩
      have hne : r.enc ≠ [] := by unfold RecR.enc; split <;> simp
      have hlen : r.enc.length ≤ 40000 := by
        by_cases hk : r.k = 1
        · obtain ⟨q1, _, q3⟩ := may_commit HMAY.out hk
          have := encs_len q3
          unfold RecR.enc
          rw [if_pos hk]
          simp only [List.length_cons]
          omega
        · unfold RecR.enc
          rw [if_neg hk]
          simp [ends, numB_length]
      obtain ⟨g, cap, rfl, hgb, hg2, hcap, hcm, hr2⟩ := o2.rd hne (by omega)
      have hpos : 0 < r.enc.length := List.length_pos_iff.2 hne
      have HBYT := Lib.hid (rec_byt HW.out)
      have HCUT : Hid (∀ n, n < r.enc.length → decodeR (r.enc.take n) = none) := Lib.hid fun n hn => decodeR_cut r HW.out HMAY.out n hn
      have HMORE : Hid (decodeR (r.enc ++ [more]) = none) := Lib.hid (decodeR_more r HW.out HMAY.out hm0 hm1)
      generalize hll : r.enc = l at *
      have HO2 := Lib.hid o2
      have HR2 := Lib.hid hr2
      have HM2 := Lib.hid (HM1.out.trans m2)
      have HLL := Lib.hid hll
      have HNE := Lib.hid hne
      unfold maxLen at hcm
      obtain ⟨p, hpl, hpe⟩ := place at_ l.length hpos hlen
      have hrd : RdB w2 g (.slice (some ⟨g, 0, none⟩) p cap) (l.take p) := by
        have e := RdB.at_ 0 cap (l.take p) (range_take HR2.out p) (by rw [List.length_take]; omega) hcm
        rw [List.length_take, Nat.min_eq_left (by omega)] at e
        exact e
      have HD1 := Lib.hid (dec_none hrd hg2 (HBYT.out.take p) (by rw [List.length_take]; omega) (HCUT.out p hpl))
      clear hll o2 m2 hr2 hne hrd
      go_wp2_with fail
      refine HD1.out.mono ?_
      rintro e w3 ⟨rfl, m3⟩
      have hmA := (Mod.refl [] w3).alloc (.cells #[.int .u8 0, .slice none 0 0, .int .i64 0, .int .i64 0] 54)
      have hs4 : (w3.alloc (.cells #[.int .u8 0, .slice none 0 0, .int .i64 0, .int .i64 0] 54)).heap.size = w3.heap.size + 1 := by simp
      have hmB := hmA.alloc (.cells #[] 5)
      have o5 := own_empty (w := w3.alloc (.cells #[.int .u8 0, .slice none 0 0, .int .i64 0, .int .i64 0] 54)) (g := w3.heap.size + 1) hs4.symm
      have hr5 := rangeAt_mod (rangeAt_mod HR2.out m3 (by simp)) hmB (by simp)
      obtain ⟨v6, w6, r6, o6, g6⟩ := app_src o5 (by simp) (tx := 23) (l2 := l) (Src.ofSlice (P := Try.prog) _ Try.underlying23 ⟨g, 0, none⟩ l.length cap (bv l) (by simp [bv]) (fun j u hu => by
        rw [Addr.add_mid]
        exact hr5 j u hu) (by
        intro u hu
        obtain ⟨z, _, rfl⟩ := List.mem_map.1 hu
        rfl)) (by simp; omega)
      rw [List.nil_append] at o6
      have hb6 : w3.heap.size + 1 ≤ w6.heap.size := by
        have := g6.mod.size
        simp at this
        omega
      obtain ⟨v7, w7, r7, o7, g7⟩ := app_at o6 hb6 more (by omega) rfl
      obtain ⟨g', cap', rfl, hgb', hg2', hcap', hcm', hr7⟩ := o7.rd (by simp) (by simp; omega)
      unfold maxLen at hcm'
      have hrd7 := RdB.at_ 0 cap' (l ++ [more]) hr7 hcap' hcm'
      have e7 : (l ++ [more]).length = l.length + 1 := by simp
      rw [e7] at r7 hrd7
      have hbyt7 : Byt (l ++ [more]) := HBYT.out.app (.cons hm0 hm1 .nil)
      have HD2 := Lib.hid (dec_none hrd7 hg2' hbyt7 (by simp; omega) HMORE.out)
      have hm6 : Mod [] w w6 := g6.intoNil o5 (by have := HM2.out.size; have := m3.size; omega) ((HM2.out.trans m3).trans hmB)
      have hm7 : Mod [] w w7 := g7.intoNil o6 (by have := HM2.out.size; have := m3.size; omega) hm6
      have HM7 := Lib.hid hm7
      have HR6 := Lib.hid r6
      have HR7 := Lib.hid r7
      clear e7 r6 o6 g6 r7 o7 g7 hr7 hrd7 hbyt7 hm6 hm7 hr5 o5 hmB hs4 hmA m3
      go_wp2_with (first | ((with_reducible refine xAppendAt HR6.out rfl rfl ?_ ?_ ?_ ?_); exact rfl; exact rfl; exact rfl) | ((with_reducible refine xAppendAt HR7.out rfl rfl ?_ ?_ ?_ ?_); exact rfl; exact rfl; exact rfl))
      refine HD2.out.mono ?_
      rintro e w8 ⟨rfl, m8⟩
      have HM8 := Lib.hid ((HM7.out.trans m8).alloc (.cells #[.int .u8 0, .slice none 0 0, .int .i64 0, .int .i64 0] 54))
      clear m8
      go_wp2_with fail
      refine (known25_any _).mono ?_
      rintro e w9 ⟨rfl, m9⟩
      go_wp2_with fail
      go_ret
      exact ⟨rfl, HM8.out.trans m9⟩
    · have hmf : r.may = false := by simpa using hm
      have HEN := Lib.hid (encode_no r _ w1 (H.out.kept0 HM1.out) HF.out HL.out hmf)
      unfold recV at HEN
      clear hm hmf
      go_wp2_with ((with_reducible refine xLoadAt rfl HLD.out ?_ ?_ ?_); exact rfl; exact rfl)
      refine HEN.out.mono ?_
      rintro e w2 ⟨rfl, m2⟩
      go_wp2_with fail
      refine (known25_any _).mono ?_
      rintro e w3 ⟨rfl, m3⟩
      go_wp2_with fail
      go_ret
      exact ⟨rfl, (HM1.out.trans m2).trans m3⟩
  · go_wp2_with fail
    refine (known25_any _).mono ?_
    rintro e w2 ⟨rfl, m2⟩
    go_wp2_with fail
    go_ret
    exact ⟨rfl, HM1.out.trans m2⟩
end Go.Proofs.Ytnoookcfacmdkaa

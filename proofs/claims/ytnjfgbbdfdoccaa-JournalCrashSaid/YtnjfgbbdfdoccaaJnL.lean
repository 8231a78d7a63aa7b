/- The journal: its records, told; a journal is made. -/
import Derived.Test.YtnjfgbbdfdoccaaJnK
namespace Go.Proofs.Ytnjfgbbdfdoccaa
open Go.RowKit Go.ChangeMaps
set_option linter.unusedSimpArgs false
set_option linter.unusedVariables false
set_option maxRecDepth 20000

/-- slices of bytes of the call's own -/
structure OwnBs (w : World) (base : Nat) (v : Value) (hs : List SlH) (ls : List (List Int)) : Prop where
  own : OwnR encH 1 33 w base v hs
  len : hs.length = ls.length
  rel : ∀ (i : Nat) (h : SlH) (l : List Int), hs[i]? = some h → ls[i]? = some l → OwnR enc8 1 5 w base h.val l ∧ h.n = l.length
theorem OwnBs.kept0 {w w' : World} {base : Nat} {v : Value} {hs : List SlH} {ls : List (List Int)} (h : OwnBs w base v hs ls) (m : Mod [] w w') : OwnBs w' base v hs ls :=
  ⟨h.own.kept0 m, h.len, fun i x l h1 h2 => ⟨(h.rel i x l h1 h2).1.kept0 m, (h.rel i x l h1 h2).2⟩⟩
theorem OwnBs.push {w w' : World} {base : Nat} {v v' : Value} {hs : List SlH} {ls : List (List Int)} {x : SlH} {l : List Int} (h : OwnBs w base v hs ls) (hx : OwnR enc8 1 5 w base x.val l) (hn : x.n = l.length) (ho : OwnR encH 1 33 w' base v' (hs ++ [x])) (gr : Grew w v w' v') : OwnBs w' base v' (hs ++ [x]) (ls ++ [l]) := by
  refine ⟨ho, by simp [h.len], fun i y k h1 h2 => ?_⟩
  by_cases hi : i < hs.length
  · rw [List.getElem?_append_left hi] at h1
    rw [List.getElem?_append_left (by rw [← h.len]; exact hi)] at h2
    obtain ⟨e1, e2⟩ := h.rel i y k h1 h2
    exact ⟨e1.kept gr.mod (own_ne2 e1 h.own (by decide)), e2⟩
  · have hi2 : i = hs.length := by
      have := (List.getElem?_eq_some_iff.1 h1).1
      simp at this; omega
    subst hi2
    rw [List.getElem?_append_right (Nat.le_refl _)] at h1
    rw [h.len, List.getElem?_append_right (Nat.le_refl _)] at h2
    simp at h1 h2
    subst h1 h2
    exact ⟨hx.kept gr.mod (own_ne2 hx h.own (by decide)), hn⟩
set_option maxHeartbeats 2000000 in
theorem jRecords_at {w : World} {base j d m : Nat} {J : Jk} {D : Dk} (h : JAt w base j d m J D) (hl : J.l.length ≤ 1048576) (hb : ∀ b ∈ J.l, b.length ≤ 1073741824) :
    Calls Try.prog 15 #[.pointer (some ⟨j, 0, none⟩)] w fun e w' => ∃ v hs, e = .returned v ∧ OwnBs w' w.heap.size v hs J.l ∧ Mod [] w w' := by
  have CN := Lib.hid (jNone_at h)
  obtain ⟨v, hs, e1, e2, e3, e4⟩ := h.ex
  have c3 : w.cell? ⟨j, 3, none⟩ = some v := by rw [cell_blk e1]; rfl
  obtain ⟨va, vc, rfl⟩ := e2.lens
  have HE3 := Lib.hid e3
  have HR := Lib.hid (⟨e2, e4⟩ : _ ∧ _)
  have HB := Lib.hid hb
  have hhl : hs.length ≤ 1048576 := by omega
  clear e1 e2 e4 e3 h hb
  go_enter Try.func15, Try.ntmps15
  go_wp2_with (refine CN.out.mono ?_; rintro e w' ⟨rfl, rfl⟩)
  go_loopw [2, 12] (fun s2 s12 W => ∃ (i : Nat) (us : List SlH) (oa : Option Addr) (oc : Nat), i ≤ hs.length ∧ s12 = .int .i64 i ∧ s2 = .slice oa i oc ∧ Hid (us.length = i ∧ OwnBs W w.heap.size (.slice oa i oc) us (J.l.take i) ∧ Mod [] w W)) (fun _ s12 _ => hs.length - (intOf s12).toNat)
  case atStart => exact ⟨0, [], none, 0, by omega, rfl, rfl, Lib.hid ⟨rfl, ⟨OwnR.nil_ _ _, rfl, by simp⟩, Mod.refl _ _⟩⟩
  case round =>
    obtain ⟨i, us, oa, oc, hi, rfl, rfl, hS⟩ := hrel
    obtain ⟨hul, hO, hM⟩ := hS.out
    by_cases hlt : i < hs.length
    · have hil : i < J.l.length := by rw [← HE3.out]; exact hlt
      obtain ⟨x, hx⟩ : ∃ x, hs[i]? = some x := ⟨hs[i], List.getElem?_eq_getElem hlt⟩
      have hrec := (HR.out.2 i x J.l[i] hx (List.getElem?_eq_getElem hil)).kept0 hM
      obtain ⟨q, o, heq, hc, hg⟩ := RowAt.get encH_len (HR.out.1.row.kept0 hM) hlt
      cases heq
      have p0 := hg 0 x.val (by omega) (by rw [(List.getElem?_eq_some_iff.1 hx).2]; rfl)
      simp only [Nat.mul_one, Nat.add_zero] at p0
      have HF := Lib.hid (List.take_succ_eq_append_getElem hil)
      have hbl := HB.out J.l[i] (List.getElem_mem hil)
      generalize J.l[i] = b at hrec HF hbl
      have CC := Lib.hid (byClone_at hrec.row hbl)
      obtain ⟨xa, xn, xc⟩ := x
      simp only [SlH.val] at p0 CC
      have HO := Lib.hid hO
      have HM := Lib.hid hM
      have h1 : decide ((i : Int) < (hs.length : Int)) = true := decide_eq_true (by omega)
      have h2 : decide ((i : Int) < 0) = false := decide_eq_false (by omega)
      have h3 : decide ((hs.length : Int) ≤ (i : Int)) = false := decide_eq_false (by omega)
      clear hrec hg hc hS hO hM
      go_wp2_with fail
      refine CC.out.mono ?_
      rintro e wa ⟨cv, rfl, hcv, ma⟩
      obtain ⟨ca, cc, rfl⟩ := hcv.lens
      have hO2 := HO.out.kept0 ma
      have hcv2 := hcv.mono HM.out.size
      obtain ⟨v', w', ra, ho', gr⟩ := own_append1 (P := Try.prog) (ty := 41) elemBs encH_len encH_one hO2.own (HM.out.trans ma).size (⟨ca, b.length, cc⟩ : SlH) (by omega) (by omega)
      dsimp only [encH] at ra
      have hN := hO2.push (x := ⟨ca, b.length, cc⟩) hcv2 rfl ho' gr
      rw [← HF.out] at hN
      obtain ⟨a', c', rfl⟩ : ∃ a c, v' = .slice a (i + 1) c := by
        obtain ⟨a, c, e⟩ := ho'.lens
        refine ⟨a, c, ?_⟩
        rw [e]
        simp [hul]
      have HN := Lib.hid (⟨by simp [hul], hN, Mod.into' (HM.out.trans ma) gr.mod (fun k hk => .inl (by rw [mem_blk] at hk; exact (World.ownsRow.lt hO2.own k hk).1))⟩ : (us ++ [(⟨ca, b.length, cc⟩ : SlH)]).length = i + 1 ∧ _ ∧ _)
      have RA := Lib.hid ra
      clear hO2 hcv hcv2 ra ho' gr hN ma CC hul
      go_wp2_with ((with_reducible refine xAppendAt RA.out rfl rfl ?_ ?_ ?_ ?_); exact rfl; exact rfl; exact rfl)
      go_roundw
      case rel => exact ⟨i + 1, _, a', c', by omega, by go_num, rfl, HN⟩
      case measure => simp [intOf]; omega
    · have h1 : decide ((i : Int) < (hs.length : Int)) = false := decide_eq_false (by omega)
      have HE := Lib.hid (show OwnBs wr w.heap.size (.slice oa i oc) us J.l ∧ Mod [] w wr from by
        rw [List.take_of_length_le (by rw [← HE3.out]; omega)] at hO
        exact ⟨hO, hM⟩)
      clear hS hO hM hul
      go_wp2_with fail
      go_ret
      exact ⟨_, us, rfl, HE.out⟩
end Go.Proofs.Ytnjfgbbdfdoccaa

/- The journal is read: superblocks, sectors. -/
import Derived.Test.YtnjfgbbdfdoccaaJnN
namespace Go.Proofs.Ytnjfgbbdfdoccaa
open Go.RowKit Go.ChangeMaps
set_option linter.unusedSimpArgs false
set_option linter.unusedVariables false
set_option maxRecDepth 20000

theorem bytesOf_inj : ∀ {a b : List Int}, IsB a → IsB b → Lib.bytesOf a = Lib.bytesOf b → a = b
  | [], [], _, _, _ => rfl
  | [], y :: b, _, _, h => by simp [Lib.bytesOf] at h
  | x :: a, [], _, _, h => by simp [Lib.bytesOf] at h
  | x :: a, y :: b, ha, hb, h => by
    simp only [Lib.bytesOf, List.map_cons, List.cons.injEq] at h
    have hx := ha x List.mem_cons_self
    have hy := hb y List.mem_cons_self
    have h1 := congrArg UInt8.toNat h.1
    simp only [UInt8.toNat_ofNat'] at h1
    have : x = y := by omega
    rw [this, bytesOf_inj (fun z hz => ha z (List.mem_cons_of_mem _ hz)) (fun z hz => hb z (List.mem_cons_of_mem _ hz)) h.2]
theorem byEqual_at {w : World} {v1 v2 : Value} {a b : List Int} (h1 : RowAt enc8 w v1 a) (h2 : RowAt enc8 w v2 b) (i1 : IsB a) (i2 : IsB b) :
    Calls Try.prog 68 #[v1, v2] w fun e w' => e = .returned (.bool (decide (a = b))) ∧ w = w' := by
  refine (Try.bytes_Equal v1 v2 a b w (conv_bytes h1.bytes) (conv_bytes h2.bytes)).mono ?_
  rintro e w' ⟨rfl, rfl⟩
  refine ⟨?_, rfl⟩
  congr 2
  by_cases h : a = b
  · subst h; simp
  · rw [decide_eq_false h]
    simp only [beq_eq_false_iff_ne, ne_eq]
    exact fun e => h (bytesOf_inj i1 i2 e)
def epochOfP (b : List Int) (at_ : Int) : Int := if numP (b.drop 1) = 0 ∨ numP (b.drop 1) % 2 ≠ at_ ∨ b ≠ superP (numP (b.drop 1)) then 0 else numP (b.drop 1)
theorem numP_range {l : List Int} (hb : IsB l) : 0 ≤ numP l ∧ numP l ≤ 4294967295 := by
  have hd : ∀ k, 0 ≤ l.getD k 0 ∧ l.getD k 0 < 256 := fun k => by
    rw [List.getD_eq_getElem?_getD]
    by_cases hk : k < l.length
    · rw [List.getElem?_eq_getElem hk]; exact hb _ (List.getElem_mem hk)
    · rw [List.getElem?_eq_none (by omega)]; exact ⟨by decide, by decide⟩
  unfold numP
  have := hd 0; have := hd 1; have := hd 2; have := hd 3
  omega
set_option maxHeartbeats 1000000 in
theorem jEpochOf_at {w : World} {bb o c : Nat} {l : List Int} (h : RowAt enc8 w (.slice (some ⟨bb, o, none⟩) 64 c) l) (hl : l.length = 64) (hb : IsB l) (hc : 64 ≤ c) (at_ : Int) :
    Calls Try.prog 55 #[.slice (some ⟨bb, o, none⟩) 64 c, .int .i64 at_] w fun e w' => e = .returned (.int .i64 (epochOfP l at_)) ∧ Mod [] w w' := by
  have hd : RowAt enc8 w (.slice (some ⟨bb, o + 1, none⟩) 63 (c - 1)) (l.drop 1) := by
    have h' : RowAt enc8 w (.slice (some ⟨bb, o, none⟩) l.length c) l := by rw [hl]; exact h
    have := RowAt.drop enc8_len h' 1 (by omega)
    rw [hl] at this
    exact this
  have CN := Lib.hid (jNumber_at hd (by rw [List.length_drop]; omega) (hb.drop 1))
  obtain ⟨n0, n1⟩ := numP_range (hb.drop 1)
  have HE := Lib.hid (show epochOfP l at_ = if numP (l.drop 1) = 0 ∨ numP (l.drop 1) % 2 ≠ at_ ∨ l ≠ superP (numP (l.drop 1)) then 0 else numP (l.drop 1) from rfl)
  generalize numP (l.drop 1) = n at CN n0 n1 HE
  have H := Lib.hid h
  have HB := Lib.hid hb
  have hc1 : ¬ c = 1 := by omega
  have hc2 : 1 ≤ c := by omega
  clear h hb hd hl
  by_cases h0 : n = 0
  · have HR := Lib.hid (show epochOfP l at_ = 0 from by rw [HE.out, if_pos (.inl h0)])
    have d0 : (n == 0) = true := by simpa using h0
    have d0' : decide (n = 0) = true := decide_eq_true h0
    clear h0
    go_enter Try.func55, Try.ntmps55
    go_wp2_with fail
    refine CN.out.mono ?_
    rintro e w1 ⟨rfl, m1⟩
    have HM := Lib.hid m1
    clear m1
    go_wp2_with fail
    go_ret
    exact ⟨by rw [HR.out]; rfl, HM.out⟩
  have d0 : (n == 0) = false := by simpa using h0
  have d0' : decide (n = 0) = false := decide_eq_false h0
  by_cases h2 : n % 2 = at_
  · have d2 : (n % 2 != at_) = false := by simpa using h2
    have d2' : decide (n % 2 = at_) = true := decide_eq_true h2
    by_cases h3 : l = superP n
    · have HR := Lib.hid (show epochOfP l at_ = n from by rw [HE.out, if_neg (fun h => by rcases h with h | h | h; exact h0 h; exact h h2; exact h h3)])
      go_enter Try.func55, Try.ntmps55
      clear h0 h2
      go_wp2_with fail
      refine CN.out.mono ?_
      rintro e w1 ⟨rfl, m1⟩
      have CS := Lib.hid (jSuper_at n n0 (by omega) w1)
      have HM := Lib.hid m1
      clear m1
      go_wp2_with fail
      refine CS.out.mono ?_
      rintro e w2 ⟨sv, rfl, hsv, m2⟩
      have CE := Lib.hid (byEqual_at ((H.out.kept0 HM.out).kept0 m2) hsv.row HB.out (superP_isB n))
      rw [decide_eq_true h3] at CE
      have HM2 := Lib.hid (HM.out.trans m2)
      clear hsv m2 CS h3
      go_wp2_with fail
      refine CE.out.mono ?_
      rintro e w3 ⟨rfl, rfl⟩
      go_wp2_with fail
      go_ret
      exact ⟨by rw [HR.out]; rfl, HM2.out⟩
    · have HR := Lib.hid (show epochOfP l at_ = 0 from by rw [HE.out, if_pos (.inr (.inr h3))])
      go_enter Try.func55, Try.ntmps55
      clear h0 h2
      go_wp2_with fail
      refine CN.out.mono ?_
      rintro e w1 ⟨rfl, m1⟩
      have CS := Lib.hid (jSuper_at n n0 (by omega) w1)
      have HM := Lib.hid m1
      clear m1
      go_wp2_with fail
      refine CS.out.mono ?_
      rintro e w2 ⟨sv, rfl, hsv, m2⟩
      have CE := Lib.hid (byEqual_at ((H.out.kept0 HM.out).kept0 m2) hsv.row HB.out (superP_isB n))
      rw [decide_eq_false h3] at CE
      have HM2 := Lib.hid (HM.out.trans m2)
      clear hsv m2 CS h3
      go_wp2_with fail
      refine CE.out.mono ?_
      rintro e w3 ⟨rfl, rfl⟩
      go_wp2_with fail
      go_ret
      exact ⟨by rw [HR.out]; rfl, HM2.out⟩
  · have HR := Lib.hid (show epochOfP l at_ = 0 from by rw [HE.out, if_pos (.inr (.inl h2))])
    have d2 : (n % 2 != at_) = true := by simpa using h2
    have d2' : decide (n % 2 = at_) = false := decide_eq_false h2
    clear h0 h2
    go_enter Try.func55, Try.ntmps55
    go_wp2_with fail
    refine CN.out.mono ?_
    rintro e w1 ⟨rfl, m1⟩
    have HM := Lib.hid m1
    clear m1
    go_wp2_with fail
    go_ret
    exact ⟨by rw [HR.out]; rfl, HM.out⟩
/-- some sectors' bytes -/
def secsP (D : Dk) (at_ : Int) (n : Nat) : List Int := ((List.range n).map fun i : Nat => D.sec (at_ + (i : Int))).flatten
theorem secsP_succ (D : Dk) (at_ : Int) (n : Nat) : secsP D at_ (n + 1) = secsP D at_ n ++ D.sec (at_ + n) := by
  unfold secsP
  rw [List.range_succ]
  simp
theorem secsP_len {D : Dk} (hs : ∀ k, (D.sec k).length = 64) (at_ : Int) (n : Nat) : (secsP D at_ n).length = n * 64 := by
  induction n with
  | zero => rfl
  | succ n ih => rw [secsP_succ, List.length_append, ih, hs]; omega
theorem secsP_isB {D : Dk} (hs : ∀ k, IsB (D.sec k)) (at_ : Int) (n : Nat) : IsB (secsP D at_ n) := by
  induction n with
  | zero => intro x hx; simp [secsP] at hx
  | succ n ih => rw [secsP_succ]; exact ih.append (hs _)
theorem BytesAt.row64 {w : World} {a : Addr} {l : List Int} (h : BytesAt w (.slice (some a) 64 64) l) (hl : l.length = 64) : RowAt enc8 w (.slice (some a) 64 64) l := by
  obtain ⟨b, o, cap, e, hr⟩ := h.form64 hl
  cases e
  have := RowAt.at_ (enc := enc8) (w := w) b o 64 l (by omega) (by rw [flat8]; exact hr)
  rwa [hl] at this
set_option maxHeartbeats 1000000 in
theorem jSectors_at {w : World} {b m : Nat} {D : Dk} (h : DiskAt w b m D) (hd : D.down = false) (at_ : Int) (n : Nat) (h0 : 0 ≤ at_) (h1 : at_ + n ≤ D.n) (h2 : D.n ≤ 65536) :
    Calls Try.prog 69 #[.pointer (some ⟨b, 0, none⟩), .int .i64 at_, .int .i64 n] w fun e w' => ∃ v, e = .returned (.tuple #[v, .int .i64 0]) ∧ OwnR enc8 1 5 w' w.heap.size v (secsP D at_ n) ∧ Mod [] w w' := by
  have H := Lib.hid h
  have HD := Lib.hid hd
  clear h hd
  go_enter Try.func69, Try.ntmps69
  go_wp2_with fail
  go_loopw [8, 9, 10, 11, 13] (fun s8 s9 s10 s11 s13 W => ∃ i : Nat, i ≤ n ∧ s13 = .int .i64 i ∧ Hid (OwnR enc8 1 5 W w.heap.size s8 (secsP D at_ i) ∧ Mod [] w W)) (fun _ _ _ _ s13 _ => n - (intOf s13).toNat)
  case atStart => exact ⟨0, by omega, rfl, Lib.hid ⟨OwnR.nil_ _ _, Mod.refl _ _⟩⟩
  case round =>
    obtain ⟨i, hi, rfl, hS⟩ := hrel
    obtain ⟨hO, hM⟩ := hS.out
    by_cases hlt : i < n
    · have hdk := H.out.kept hM (by simp) (by simp)
      have has : D.asked (at_ + i) = 0 := by
        unfold Dk.asked
        rw [HD.out, if_neg (by decide), if_neg (by omega)]
      have CR := Lib.hid (read_own hdk (at_ + i) has)
      have hsl := sec_length H.out (at_ + i)
      have HSL := Lib.hid hsl
      have HL := Lib.hid (show (secsP D at_ i).length = i * 64 from secsP_len (fun k => sec_length H.out k) at_ i)
      have HO := Lib.hid hO
      have HM := Lib.hid hM
      have hlt2 : decide ((i : Int) < (n : Int)) = true := decide_eq_true (by omega)
      clear hS hO hM hdk has hsl
      go_wp2_with fail
      refine CR.out.mono ?_
      rintro e w1 ⟨rv, rfl, ⟨ra, rfl⟩, hfr⟩
      have hrow := hfr.bytes.row64 HSL.out
      obtain ⟨oa, oc, hoe⟩ := (HO.out.kept0 hfr.mod).lens
      subst hoe
      obtain ⟨v', w', rb, ho', gr⟩ := own_append (P := Try.prog) (ty := 33) (tx := 33) elem8 enc8_len (HO.out.kept0 hfr.mod) (HM.out.trans hfr.mod).size (hrow.src enc8_len enc8_one Try.underlying33) (by rw [HL.out, HSL.out]; omega) (by omega)
      obtain ⟨a', n', c', rfl⟩ : ∃ a n c, v' = .slice a n c := by obtain ⟨a, c, e⟩ := ho'.lens; exact ⟨a, _, c, e⟩
      rw [← secsP_succ] at ho'
      have HN := Lib.hid (show OwnR enc8 1 5 w' w.heap.size (.slice a' n' c') (secsP D at_ (i + 1)) ∧ Mod [] w w' from ⟨ho', Mod.into' (HM.out.trans hfr.mod) gr.mod (fun k hk => .inl (by rw [mem_blk] at hk; exact (World.ownsRow.lt HO.out k hk).1))⟩)
      have RB := Lib.hid rb
      clear hrow hfr rb ho' gr CR
      go_wp2_with ((with_reducible refine xAppendAt RB.out rfl rfl ?_ ?_ ?_ ?_); exact rfl; exact rfl; exact rfl)
      go_roundw
      case rel => exact ⟨i + 1, by omega, by go_num, HN⟩
      case measure => simp [intOf]; omega
    · obtain rfl : i = n := by omega
      have hlt2 : decide ((i : Int) < (i : Int)) = false := decide_eq_false (by omega)
      have HE := Lib.hid (⟨hO, hM⟩ : _ ∧ _)
      clear hS hO hM
      go_wp2_with fail
      go_ret2
      exact ⟨_, rfl, HE.out⟩
end Go.Proofs.Ytnjfgbbdfdoccaa

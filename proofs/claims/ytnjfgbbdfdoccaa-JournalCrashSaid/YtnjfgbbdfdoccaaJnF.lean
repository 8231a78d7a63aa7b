/- The journal's frames. -/
import Derived.Test.YtnjfgbbdfdoccaaJnE
import Derived.Test.YtnjfgbbdfdoccaaRegI
import Derived.Test.YtnjfgbbdfdoccaaRegR
namespace Go.Proofs.Ytnjfgbbdfdoccaa
open Go.RowKit Go.ChangeMaps
set_option linter.unusedSimpArgs false
set_option linter.unusedVariables false
set_option maxRecDepth 20000

def manyP (k : Nat) : Nat := (k + 81) / 64
/-- a frame's bytes, ahead of its sum; with it; filled up -/
def frameB (kind ep n : Int) (own : List Int) : List Int := [199, kind] ++ (fourP ep ++ (fourP n ++ (fourP own.length ++ own)))
def frameC (kind ep n : Int) (own : List Int) : List Int := frameB kind ep n own ++ fourP (sumP (frameB kind ep n own))
def frameP (kind ep n : Int) (own : List Int) : List Int := frameC kind ep n own ++ List.replicate (manyP own.length * 64 - (own.length + 18)) 0
theorem frameB_len (kind ep n : Int) (own : List Int) : (frameB kind ep n own).length = own.length + 14 := by simp [frameB, fourP_len]; omega
theorem frameC_len (kind ep n : Int) (own : List Int) : (frameC kind ep n own).length = own.length + 18 := by simp [frameC, fourP_len, frameB_len]
theorem frameP_len (kind ep n : Int) (own : List Int) : (frameP kind ep n own).length = manyP own.length * 64 := by
  simp only [frameP, List.length_append, List.length_replicate, frameC_len]
  unfold manyP
  omega
theorem frameB_isB {kind ep n : Int} {own : List Int} (hk : 0 ≤ kind ∧ kind < 256) (ho : IsB own) : IsB (frameB kind ep n own) := by
  refine IsB.append ?_ (IsB.append (fourP_isB _) (IsB.append (fourP_isB _) (IsB.append (fourP_isB _) ho)))
  intro x hx
  simp at hx
  rcases hx with rfl | rfl <;> omega
theorem frameP_isB {kind ep n : Int} {own : List Int} (hk : 0 ≤ kind ∧ kind < 256) (ho : IsB own) : IsB (frameP kind ep n own) :=
  IsB.append (IsB.append (frameB_isB hk ho) (fourP_isB _)) (isB_zeros _)
theorem row_litJ {α : Type} {enc : α → List Value} {w' : World} {E : TypeId} {l : List α} {c : Array Value} {n b : Nat} (h : w'.heap[b]? = some (.cells c E (0, 0))) (hc : c = (flat enc l).toArray) (hn : n = l.length) : RowAt enc w' (.slice (some ⟨b, 0, none⟩) n n) l := by
  subst hc hn
  exact .at_ _ 0 _ l (Nat.le_refl _) (fun j u hu => by
    rw [Nat.zero_add, cell_blk h]
    simpa using hu)
set_option maxHeartbeats 4000000 in
theorem jFrame_at {w : World} {v : Value} {own : List Int} (h : RowAt enc8 w v own) (hl : own.length ≤ 134217728) (ho : IsB own) (kind ep n : Int) (hk : 0 ≤ kind ∧ kind < 256) (he : 0 ≤ ep ∧ ep ≤ 4294967296) (hn : 0 ≤ n ∧ n ≤ 4294967296) :
    Calls Try.prog 35 #[.int .u8 kind, .int .i64 ep, .int .i64 n, v] w fun e w' => ∃ u, e = .returned u ∧ OwnR enc8 1 5 w' w.heap.size u (frameP kind ep n own) ∧ Mod [] w w' := by
  obtain ⟨va, vc, rfl⟩ := h.form
  have H := Lib.hid h
  have HO := Lib.hid ho
  have HK := Lib.hid hk
  obtain ⟨he0, he1⟩ := he
  obtain ⟨hn0, hn1⟩ := hn
  clear h ho hk
  go_enter Try.func35, Try.ntmps35
  obtain ⟨D1, hAl, kA, zA, mA⟩ := alloc_named2 w (.cells #[.int .u8 199, .int .u8 kind] 5)
  obtain ⟨gR, hgR⟩ : ∃ g, w.heap.size = g := ⟨_, rfl⟩
  rw [hgR] at kA
  have HR := Lib.hid (row_litJ (enc := enc8) (l := [199, kind]) kA rfl rfl)
  have HM := Lib.hid mA
  have HAl := Lib.hid hAl
  have HgR := Lib.hid hgR
  clear hAl kA zA mA hgR
  have CF := Lib.hid (jFour_at ep (by omega) (by omega) D1)
  go_wp2_with fail
  rw [HAl.out]
  clear HAl
  refine CF.out.mono ?_
  rintro e D2 ⟨fv, rfl, hf, mA⟩
  have hf := hf.mono HM.out.size
  have HM := Lib.hid (HM.out.trans mA)
  have HR := Lib.hid (HR.out.kept0 mA)
  obtain ⟨haa, hac, rfl⟩ := hf.lens
  have HA := Lib.hid hf.row
  clear mA hf CF
  have CF := Lib.hid (jFour_at n (by omega) (by omega) D2)
  go_wp2_with fail
  refine CF.out.mono ?_
  rintro e D3 ⟨fv, rfl, hf, mA⟩
  have hf := hf.mono HM.out.size
  have HM := Lib.hid (HM.out.trans mA)
  have HR := Lib.hid (HR.out.kept0 mA)
  have HA := Lib.hid (HA.out.kept0 mA)
  obtain ⟨hba, hbc, rfl⟩ := hf.lens
  have HB := Lib.hid hf.row
  clear mA hf CF
  have CF := Lib.hid (jFour_at (own.length : Int) (by omega) (by omega) D3)
  go_wp2_with fail
  refine CF.out.mono ?_
  rintro e D4 ⟨fv, rfl, hf, mA⟩
  have hf := hf.mono HM.out.size
  have HM := Lib.hid (HM.out.trans mA)
  have HR := Lib.hid (HR.out.kept0 mA)
  have HA := Lib.hid (HA.out.kept0 mA)
  have HB := Lib.hid (HB.out.kept0 mA)
  obtain ⟨hca, hcc, rfl⟩ := hf.lens
  have HC := Lib.hid hf.row
  clear mA hf CF
  obtain ⟨D5, hAl, kA, zA, mA⟩ := alloc_named2 D4 (.cells #[.slice (some ⟨gR, 0, none⟩) 2 2, .slice haa (fourP ep).length hac, .slice hba (fourP n).length hbc, .slice hca (fourP (own.length : Int)).length hcc, .slice va own.length vc] 33)
  obtain ⟨gH, hgH⟩ : ∃ g, D4.heap.size = g := ⟨_, rfl⟩
  rw [hgH] at kA
  have hBs : BsAt D5 (.slice (some ⟨gH, 0, none⟩) 5 5) [⟨some ⟨gR, 0, none⟩, 2, 2⟩, ⟨haa, (fourP ep).length, hac⟩, ⟨hba, (fourP n).length, hbc⟩, ⟨hca, (fourP (own.length : Int)).length, hcc⟩, ⟨va, own.length, vc⟩] [[199, kind], fourP ep, fourP n, fourP own.length, own] := by
    refine ⟨row_litJ kA rfl rfl, rfl, fun i x l h1 h2 => ?_⟩
    have hi : i < 5 := by have := (List.getElem?_eq_some_iff.1 h1).1; simpa using this
    obtain rfl | rfl | rfl | rfl | rfl : i = 0 ∨ i = 1 ∨ i = 2 ∨ i = 3 ∨ i = 4 := by omega
    · cases h1; cases h2; exact ⟨HR.out.kept0 mA, rfl⟩
    · cases h1; cases h2; exact ⟨HA.out.kept0 mA, rfl⟩
    · cases h1; cases h2; exact ⟨HB.out.kept0 mA, rfl⟩
    · cases h1; cases h2; exact ⟨HC.out.kept0 mA, rfl⟩
    · cases h1; cases h2; exact ⟨(H.out.kept0 HM.out).kept0 mA, rfl⟩
  have HM := Lib.hid (HM.out.trans mA)
  have CC := Lib.hid (slConcat_at hBs (by simp) (by simp [fourP_len]; omega))
  have HAl := Lib.hid hAl
  have HgH := Lib.hid hgH
  clear hAl hgH zA kA mA hBs
  go_wp2_with fail
  rw [HgR.out, HgH.out, HAl.out]
  clear HAl HgH HgR
  refine CC.out.mono ?_
  rintro e wc ⟨u, rfl, hu, m6⟩
  have h6 : OwnR enc8 1 5 wc w.heap.size u (frameB kind ep n own) := by have h6 := hu.mono HM.out.size; simpa [frameB] using h6
  obtain ⟨ua, uc, hue⟩ := h6.lens
  rw [frameB_len] at hue
  obtain ⟨um, hum⟩ : ∃ m, own.length + 14 = m := ⟨_, rfl⟩
  rw [hum] at hue
  subst hue
  have hO := h6
  have hM := HM.out.trans m6
  have HU := Lib.hid hum.symm
  clear hu m6 CC h6 hum HM
  have hbl := frameB_len kind ep n own
  have CS := Lib.hid (jSum_at hO.row (by omega) (frameB_isB HK.out HO.out))
  obtain ⟨hs0, hs1⟩ := sumP_in (frameB kind ep n own)
  have HQ := Lib.hid hO
  have HM := Lib.hid hM
  have HFC := Lib.hid (show frameC kind ep n own = frameB kind ep n own ++ fourP (sumP (frameB kind ep n own)) from rfl)
  have HFP := Lib.hid (show frameP kind ep n own = frameC kind ep n own ++ List.replicate (manyP own.length * 64 - (own.length + 18)) 0 from rfl)
  have hcl := frameC_len kind ep n own
  generalize sumP (frameB kind ep n own) = sm at CS hs0 hs1 HFC
  generalize frameB kind ep n own = B at CS HQ HFC hbl
  generalize frameC kind ep n own = C at HFC HFP hcl
  clear hO hM
  go_wp2_with fail
  refine CS.out.mono ?_
  rintro e w1 ⟨rfl, rfl⟩
  have CF := Lib.hid (jFour_at sm hs0 (by omega) wc)
  clear CS
  go_wp2_with fail
  refine CF.out.mono ?_
  rintro e w2 ⟨fv, rfl, hf, m2⟩
  obtain ⟨fa, fc, rfl⟩ := hf.lens
  obtain ⟨v', w3, ra, ho3, gr⟩ := own_append (P := Try.prog) (ty := 33) (tx := 33) elem8 enc8_len (HQ.out.kept0 m2) (HM.out.trans m2).size (hf.row.src enc8_len enc8_one Try.underlying33) (by rw [fourP_len]; omega) (by omega)
  obtain ⟨a', n', c', rfl⟩ : ∃ a n c, v' = .slice a n c := by obtain ⟨a, c, e⟩ := ho3.lens; exact ⟨a, _, c, e⟩
  have m3 : Mod [] w w3 := Mod.into' (HM.out.trans m2) gr.mod (fun k hk => .inl (by rw [mem_blk] at hk; exact (World.ownsRow.lt HQ.out k hk).1))
  rw [← HFC.out] at ho3
  have hl3 : n' = C.length := by obtain ⟨a, c, e⟩ := ho3.lens; cases e; rfl
  have hn' : n' = own.length + 18 := by omega
  clear hl3
  obtain ⟨v4, w4, rb, ho4, gr4⟩ := own8_zeros ho3 m3.size (manyP own.length * 64 - (own.length + 18)) (by rw [hcl]; unfold manyP; omega) 33
  obtain ⟨a4, n4, c4, rfl⟩ : ∃ a n c, v4 = .slice a n c := by obtain ⟨a, c, e⟩ := ho4.lens; exact ⟨a, _, c, e⟩
  have m4 : Mod [] w w4 := Mod.into' m3 gr4.mod (fun k hk => .inl (by rw [mem_blk] at hk; exact (World.ownsRow.lt ho3 k hk).1))
  rw [← HFP.out] at ho4
  have hz : ((manyP own.length * 64 - (own.length + 18) : Nat) : Int) = ((own.length : Int) + 81) / 64 * 64 - n' := by
    rw [hn']
    unfold manyP
    omega
  rw [hz] at rb
  have CM := Lib.hid (jMany_at (own.length : Int) (by omega) (by omega) w3)
  have RA := Lib.hid ra
  have RB := Lib.hid rb
  have HE := Lib.hid (⟨ho4, m4⟩ : _ ∧ _)
  have hnb : n' ≤ 134217746 := by omega
  have hnc : n' ≤ (own.length + 81) / 64 * 64 := by omega
  clear hf m2 ra ho3 gr rb ho4 gr4 m3 m4 CF hz hcl hbl HQ HFC HFP HM hs0 hs1 hn'
  go_wp2_with ((with_reducible refine xAppendAt RA.out rfl rfl ?_ ?_ ?_ ?_); exact rfl; exact rfl; exact rfl)
  refine CM.out.mono ?_
  rintro e w5 ⟨rfl, rfl⟩
  clear CM
  go_wp2_with ((with_reducible refine xAppendAt RB.out rfl rfl ?_ ?_ ?_ ?_); exact rfl; exact rfl; exact rfl)
  go_ret
  exact ⟨_, rfl, HE.out⟩
end Go.Proofs.Ytnjfgbbdfdoccaa

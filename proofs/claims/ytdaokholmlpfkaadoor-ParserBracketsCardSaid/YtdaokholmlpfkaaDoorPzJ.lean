/- The formulas' grammar: what is given up bears an error (plain). -/
import Derived.Test.YtdaokholmlpfkaaDoorPzI
namespace Go.Proofs.YtdaokholmlpfkaaDoor
open Go.RowKit Go.ChangeMaps Go.Deep
set_option linter.unusedSimpArgs false
set_option linter.unusedVariables false
set_option maxRecDepth 20000

def strV (x : ByteArray) : Value := .string x
theorem tx_of (x : ByteArray) : x = txZ x.data.toList := by
  apply ByteArray.ext
  simp [txZ]
set_option maxHeartbeats 2000000 in
theorem psField_at {w : World} {p : Nat} {en : Int} {s : Pz} (hg : Gl w) (h : PsAt w p en s) : Calls Tryd.prog 33 #[.pointer (some ⟨p, 0, none⟩)] w fun e w' => PsR p en w strV (fieldZ en s) e w' := by
  have CF := Lib.hid (fun (W : World) (hW : PsAt W p en s) => psFail_at hW 4)
  have HP := Lib.hid h
  obtain ⟨la, lc, tv, hx⟩ := h
  have c0 := cell_blk hx.blk 0
  have f0 := frozen_blk hx.blk 0
  simp only [List.getElem?_toArray, List.getElem?_cons_succ, List.getElem?_cons_zero] at c0
  cases hs : s.l with
  | nil =>
    rw [hs] at c0
    have HR := Lib.hid (show fieldZ en s = failZ en 4 s by unfold fieldZ; rw [hs])
    clear hx
    go_enter Tryd.func33, Tryd.ntmps33
    go_wp2_with fail
    refine (CF.out _ HP.out).mono ?_
    rintro e w3 ⟨rfl, rfl⟩
    go_wp2_with fail
    exact ⟨rfl, PsR.fail HR.out (by rw [hs]) (Up.refl _ _)⟩
  | cons t r =>
    obtain ⟨b, o, rfl, hb, hc, k0, k1, k2, k3, k4⟩ := hx.head hs
    have hlen : 0 < s.l.length := by rw [hs]; simp
    have hlen2 := hx.len
    have hpw := hx.lt
    have HW := Lib.hid (show fieldZ en s = if t.kind = 1 ∧ nameZ t.text = true then .ok t.text s.next else failZ en 4 s by unfold fieldZ; rw [hs])
    have CN := Lib.hid (show Calls Tryd.prog 47 #[.string t.text] w fun e w' => e = .returned (.bool (nameZ t.text)) ∧ Mod [] w w' from by
      have hsz := hx.txt t (by rw [hs]; simp)
      have := lxName_at hg t.text.data.toList (by rw [tx_of t.text, tx_size] at hsz; exact hsz)
      rw [← tx_of] at this
      exact this)
    have HX := Lib.hid (And.intro hx hs)
    obtain ⟨tk, tt, tc, ts, ta⟩ := t
    dsimp only at k0 k1 k2 k3 k4 HW CN
    have hn0 : ¬ s.l.length = 0 := by omega
    clear hs
    by_cases h1 : tk = 1
    · subst h1
      cases hnm : nameZ tt with
      | true =>
        have HR := Lib.hid (HW.out.trans (if_pos ⟨rfl, hnm⟩))
        rw [hnm] at CN
        rw [HR.out]
        have hnil : ¬ s.l = [] := by intro k; rw [k] at hn0; exact hn0 rfl
        clear hnm hx
        go_enter Tryd.func33, Tryd.ntmps33
        go_wp2_with fail
        refine CN.out.mono ?_
        rintro e w2 ⟨rfl, m2⟩
        have hx2 := HX.out.1.kept m2
        obtain ⟨b', o', e, -, -, q0, q1, -, -, -⟩ := hx2.head HX.out.2
        cases e
        have HT := Lib.hid (hx2.two HX.out.2)
        have HUP := Lib.hid (Up.keep (p := p) m2 hpw)
        clear c0 f0 k0 k1 k2 k3 k4
        have c0 := cell_blk hx2.blk 0
        have f0 := frozen_blk hx2.blk 0
        simp only [List.getElem?_toArray, List.getElem?_cons_succ, List.getElem?_cons_zero] at c0
        dsimp only at q0 q1
        clear hx2 m2 CN
        by_cases hl1 : lc = 1
        · subst hl1
          have hn1 : s.l.length = 1 := by omega
          have HH := HT.out o (.inr (by omega))
          rw [hn1] at HH c0
          have HH := Lib.hid HH
          clear HT
          go_wp2_with fail
          go_ret
          exact ⟨rfl, HH.out.1, HUP.out.trans HH.out.2⟩
        · have HH := Lib.hid (HT.out (o + 5) (.inl rfl))
          clear HT
          go_wp2_with fail
          go_ret
          exact ⟨rfl, HH.out.1, HUP.out.trans HH.out.2⟩
      | false =>
        have HR := Lib.hid (HW.out.trans (if_neg (fun k => by rw [hnm] at k; cases k.2)))
        rw [hnm] at CN
        clear hnm hx
        generalize s.l.length = n at *
        go_enter Tryd.func33, Tryd.ntmps33
        go_wp2_with fail
        refine CN.out.mono ?_
        rintro e w2 ⟨rfl, m2⟩
        have HM := Lib.hid m2
        have HS := Lib.hid hpw
        clear m2
        go_wp2_with fail
        refine (CF.out _ (HP.out.kept HM.out)).mono ?_
        rintro e w3 ⟨rfl, rfl⟩
        go_wp2_with fail
        exact ⟨rfl, PsR.fail HR.out rfl (Up.keep HM.out HS.out)⟩
    · have HR := Lib.hid (HW.out.trans (if_neg (fun k => h1 k.1)))
      clear hx
      generalize s.l.length = n at *
      go_enter Tryd.func33, Tryd.ntmps33
      go_wp2_with fail
      refine (CF.out _ HP.out).mono ?_
      rintro e w3 ⟨rfl, rfl⟩
      go_wp2_with fail
      exact ⟨rfl, PsR.fail HR.out rfl (Up.refl _ _)⟩
end Go.Proofs.YtdaokholmlpfkaaDoor
namespace Go.Proofs.YtdaokholmlpfkaaDoor
open Go.RowKit Go.ChangeMaps Go.Deep
set_option linter.unusedSimpArgs false
set_option linter.unusedVariables false
set_option maxRecDepth 20000

def encOp (o : ByteArray × Int) : List Value := [.string o.1, .int .u8 o.2]
theorem encOp_len (x : ByteArray × Int) : (encOp x).length = 2 := rfl
set_option maxHeartbeats 2000000 in
theorem psInfix_at {w : World} {p : Nat} {en : Int} {s : Pz} (h : PsAt w p en s) {v : Value} {os : List (ByteArray × Int)} (hv : RowAt encOp w v os) (hl : os.length ≤ 100) : Calls Tryd.prog 43 #[.pointer (some ⟨p, 0, none⟩), v] w fun e w' => e = .returned (.int .u8 (findZ s.l os)) ∧ Mod [] w w' := by
  obtain ⟨la, lc, rfl⟩ := hv.form
  have HV := Lib.hid hv
  have HP := Lib.hid h
  clear hv h
  go_enter Tryd.func43, Tryd.ntmps43
  go_wp2_with fail
  go_loopw [9] (fun s9 W => ∃ j : Nat, j ≤ os.length ∧ s9 = .int .i64 j ∧ Hid (findZ s.l os = findZ s.l (os.drop j) ∧ Mod [] w W)) (fun s9 _ => os.length - (intOf s9).toNat)
  case atStart => exact ⟨0, by omega, rfl, Lib.hid ⟨rfl, Mod.refl _ _⟩⟩
  case round =>
    obtain ⟨j, hj, rfl, hS⟩ := hrel
    by_cases hlt : j < os.length
    · obtain ⟨q, o, rfl, hqc, hg⟩ := (HV.out.kept0 hS.out.2).get encOp_len hlt
      have hF := hS.out.1
      rw [List.drop_eq_getElem_cons hlt] at hF
      have hrow : wr.rangeAt q (o + j * 2) [.string (os[j]).1, .int .u8 (os[j]).2] := fun jj u hu => by
        have := hg jj u (by have := (List.getElem?_eq_some_iff.1 hu).1; simpa using this) hu
        rw [← this]
        congr 2
        omega
      generalize os[j] = x at hF hrow
      obtain ⟨xt, xo⟩ := x
      dsimp only at hrow
      have HLI := Lib.hid (run_loadAt_mid (P := Tryd.prog) _ q (o + j * 2) 58 _ _ hrow Tryd.underlying58 rfl (by kernel_rfl))
      obtain ⟨I1, hI1, nI, zI, mI⟩ := alloc_named2 wr (.cells #[.string xt, .int .u8 xo] 58)
      have i0 := cell_blk nI 0
      have i1 := cell_blk nI 1
      simp only [List.getElem?_toArray, List.getElem?_cons_succ, List.getElem?_cons_zero] at i0 i1
      have hj0 : decide ((j : Int) < 0) = false := decide_eq_false (by omega)
      have hj1 : decide ((os.length : Int) ≤ (j : Int)) = false := decide_eq_false (by omega)
      have hj2 : decide ((j : Int) < (os.length : Int)) = true := decide_eq_true (by omega)
      have CI := Lib.hid (psIs_at ((HP.out.kept hS.out.2).kept mI) xt)
      have HM := Lib.hid (hS.out.2.trans mI)
      have HF := Lib.hid hF
      clear hF hrow hg hqc nI mI hS
      cases hz : isZ s.l xt with
      | true =>
        rw [hz] at CI
        have HQ := Lib.hid (show findZ s.l os = xo by rw [HF.out]; unfold findZ; rw [if_pos hz])
        clear hz
        go_wp2_with ((with_reducible refine xLoadAt rfl HLI.out ?_ ?_ ?_); exact rfl; exact rfl)
        refine CI.out.mono ?_
        rintro e w2 ⟨rfl, rfl⟩
        go_wp2_with fail
        go_ret
        exact ⟨by rw [HQ.out]; rfl, HM.out⟩
      | false =>
        rw [hz] at CI
        have HQ := Lib.hid (show findZ s.l os = findZ s.l (os.drop (j + 1)) by rw [HF.out]; conv => lhs; unfold findZ; rw [if_neg (by simp [hz])])
        clear hz
        go_wp2_with ((with_reducible refine xLoadAt rfl HLI.out ?_ ?_ ?_); exact rfl; exact rfl)
        refine CI.out.mono ?_
        rintro e w2 ⟨rfl, rfl⟩
        have HN := Lib.hid (And.intro HQ.out HM.out)
        go_wp2_with fail
        go_roundw
        case rel => exact ⟨j + 1, by omega, by go_num, HN⟩
        case measure => simp [intOf]; omega
    · have hj2 : decide ((j : Int) < (os.length : Int)) = false := decide_eq_false (by omega)
      have HQ := Lib.hid (show findZ s.l os = 0 by rw [hS.out.1, List.drop_of_length_le (by omega)]; rfl)
      go_wp2_with fail
      go_ret
      exact ⟨by rw [HQ.out]; rfl, hS.out.2⟩
end Go.Proofs.YtdaokholmlpfkaaDoor
namespace Go.Proofs.YtdaokholmlpfkaaDoor
set_option linter.unusedVariables false
set_option linter.unusedSimpArgs false

/-- how often a node names a place -/
def Nz.cnt (n : Nz) (v : Int) : Nat := (if n.k0 = v then 1 else 0) + (if n.k1 = v then 1 else 0) + (if n.k2 = v then 1 else 0)
def cntL (l : List Nz) (v : Int) : Nat := (l.map fun n => n.cnt v).sum
theorem cntL_append (a b : List Nz) (v : Int) : cntL (a ++ b) v = cntL a v + cntL b v := by simp [cntL]
theorem cntL_one (n : Nz) (v : Int) : cntL [n] v = n.cnt v := by simp [cntL]
theorem cntL_zero {l : List Nz} {v : Int} (h : ∀ n ∈ l, n.cnt v = 0) : cntL l v = 0 := by
  unfold cntL
  induction l with
  | nil => rfl
  | cons n l ih => rw [List.map_cons, List.sum_cons, h n (by simp), ih (fun m hm => h m (by simp [hm]))]
/-- a place below p, or none -/
def okK (base p k : Int) : Prop := k = -1 ∨ (base ≤ k ∧ k < p)
def okN (base p : Int) (n : Nz) : Prop := okK base p n.k0 ∧ okK base p n.k1 ∧ okK base p n.k2
/-- nodes laid from base on: each names places from base on, ahead of it -/
def Fits (base : Int) (l : List Nz) : Prop := ∀ i (h : i < l.length), okN base (base + i) l[i]
/-- a whole: fits, and each but the last one is named once, the last one never -/
structure Whole (base : Int) (l : List Nz) : Prop where
  ne : l ≠ []
  fits : Fits base l
  cnt : ∀ i : Nat, i < l.length → cntL l (base + i) = if i + 1 < l.length then 1 else 0
theorem Fits.cnt_out {base : Int} {l : List Nz} (hb : 0 ≤ base) (h : Fits base l) {v : Int} (hv : v < base ∧ v ≠ -1 ∨ base + l.length ≤ v + 1 ∧ 0 ≤ v) : cntL l v = 0 := by
  have : ∀ n ∈ l, n.cnt v = 0 := by
    intro n hn
    obtain ⟨i, hi, rfl⟩ := List.getElem_of_mem hn
    obtain ⟨h0, h1, h2⟩ := h i hi
    unfold okK at h0 h1 h2
    unfold Nz.cnt
    rw [if_neg (by omega), if_neg (by omega), if_neg (by omega)]
  exact cntL_zero this
theorem Fits.append {base : Int} {a b : List Nz} (ha : Fits base a) (hb : Fits (base + a.length) b) : Fits base (a ++ b) := by
  intro i hi
  by_cases h : i < a.length
  · rw [List.getElem_append_left h]
    exact ha i h
  · rw [List.getElem_append_right (by omega)]
    have := hb (i - a.length) (by simp at hi; omega)
    have e : base + (a.length : Int) + ((i - a.length : Nat) : Int) = base + i := by omega
    rw [e] at this
    obtain ⟨h0, h1, h2⟩ := this
    unfold okN okK at *
    omega
/-- wholes side by side: the places of their last nodes -/
inductive Row15 (base : Int) : List Nz → List Int → Prop
  | nil : Row15 base [] []
  | snoc {l b : List Nz} {ks : List Int} : Row15 base l ks → Whole (base + l.length) b → Row15 base (l ++ b) (ks ++ [base + l.length + b.length - 1])
theorem Row15.fits {base : Int} {l : List Nz} {ks : List Int} (h : Row15 base l ks) : Fits base l := by
  induction h with
  | nil => intro i hi; simp at hi
  | snoc h hw ih => exact ih.append hw.fits
theorem Row15.mem {base : Int} {l : List Nz} {ks : List Int} (h : Row15 base l ks) : ∀ k ∈ ks, base ≤ k ∧ k < base + l.length := by
  induction h with
  | nil => simp
  | snoc h hw ih =>
    rename_i l b ks
    intro k hk
    have hb : 0 < b.length := List.length_pos_iff.2 hw.ne
    rw [List.length_append]
    rcases List.mem_append.1 hk with h1 | h1
    · have := ih k h1
      omega
    · simp at h1
      omega
/-- in a row each place is named once, but for the wholes' last ones, which are not -/
theorem Row15.cnt {base : Int} (hb : 0 ≤ base) {l : List Nz} {ks : List Int} (h : Row15 base l ks) : ∀ i : Nat, i < l.length → cntL l (base + i) + ks.count (base + i) = 1 := by
  induction h with
  | nil => intro i hi; simp at hi
  | snoc h hw ih =>
    rename_i l b ks
    intro i hi
    have hbl : 0 < b.length := List.length_pos_iff.2 hw.ne
    rw [cntL_append, List.count_append]
    by_cases hl : i < l.length
    · have h1 := ih i hl
      have h2 : cntL b (base + i) = 0 := hw.fits.cnt_out (by omega) (.inl ⟨by omega, by omega⟩)
      have h3 : ([base + (l.length : Int) + (b.length : Int) - 1] : List Int).count (base + i) = 0 := by
        rw [List.count_eq_zero]
        simp
        omega
      omega
    · have h1 : cntL l (base + i) = 0 := h.fits.cnt_out hb (.inr ⟨by omega, by omega⟩)
      have h2 : ks.count (base + i) = 0 := by
        rw [List.count_eq_zero]
        intro hm
        have := h.mem _ hm
        omega
      have h3 := hw.cnt (i - l.length) (by simp at hi; omega)
      rw [show base + (l.length : Int) + ((i - l.length : Nat) : Int) = base + i by omega] at h3
      by_cases h4 : i + 1 < l.length + b.length
      · rw [if_pos (by omega)] at h3
        have h5 : ([base + (l.length : Int) + (b.length : Int) - 1] : List Int).count (base + i) = 0 := by
          rw [List.count_eq_zero]
          simp
          omega
        omega
      · rw [if_neg (by omega)] at h3
        have h5 : ([base + (l.length : Int) + (b.length : Int) - 1] : List Int).count (base + i) = 1 := by
          rw [show base + (i : Int) = base + (l.length : Int) + (b.length : Int) - 1 by simp at hi; omega]
          simp
        omega
/-- a node above the row's wholes makes a whole -/
theorem Row15.node {base : Int} (hb : 0 ≤ base) {l : List Nz} {ks : List Int} (h : Row15 base l ks) {n : Nz} (hn : okN base (base + l.length) n) (hc : ∀ v, 0 ≤ v → n.cnt v = ks.count v) : Whole base (l ++ [n]) := by
  have hf : Fits base (l ++ [n]) := fun i hi => by
    by_cases h1 : i < l.length
    · rw [List.getElem_append_left h1]
      exact h.fits i h1
    · have h2 : i = l.length := by simp at hi; omega
      subst h2
      rw [List.getElem_append_right (Nat.le_refl _)]
      simpa using hn
  refine ⟨by simp, hf, fun i hi => ?_⟩
  rw [cntL_append, cntL_one, hc _ (by omega)]
  by_cases h1 : i < l.length
  · rw [if_pos (by simp; omega)]
    exact h.cnt hb i h1
  · rw [if_neg (by simp at hi ⊢; omega)]
    have h2 : cntL l (base + i) = 0 := h.fits.cnt_out hb (.inr ⟨by omega, by omega⟩)
    have h3 : ks.count (base + i) = 0 := by
      rw [List.count_eq_zero]
      intro hm
      have := h.mem _ hm
      omega
    omega
/-- what a reading lays: a whole, told by its last place -/
def LaysW (s : Pz) (r : Rz Int) : Prop := ∀ a s1, r = .ok a s1 → ∃ b, s1.tree = s.tree ++ b ∧ Whole s.tree.length b ∧ a = (s.tree.length : Int) + b.length - 1
theorem LaysW.bad {s : Pz} {p e : Int} : LaysW s (.bad p e) := fun a s1 h => by cases h
theorem LaysW.fail {s s2 : Pz} {en e : Int} : LaysW s (failZ en e s2) := LaysW.bad
theorem LaysW.eqTree {s s2 : Pz} {r : Rz Int} (h : LaysW s r) (e : s2.tree = s.tree) : LaysW s2 r := fun a s1 k => by
  rw [e]
  exact h a s1 k
/-- readings that lay nothing -/
def Stays {α : Type} (s : Pz) (r : Rz α) : Prop := ∀ a s1, r = .ok a s1 → s1.tree = s.tree
theorem Stays.bind {α : Type} {s : Pz} {r : Rz α} {f : α → Pz → Rz Int} (h : Stays s r) (hf : ∀ a s1, r = .ok a s1 → LaysW s1 (f a s1)) : LaysW s (r.bind f) := by
  cases r with
  | bad p e => exact LaysW.bad
  | ok a s1 => exact (hf a s1 rfl).eqTree (h a s1 rfl).symm
theorem mustZ_stays {en : Int} {x : ByteArray} {s : Pz} : Stays s (mustZ en x s) := fun a s1 h => by
  unfold mustZ at h
  split at h
  · cases h; rfl
  · cases h
theorem openZ_stays {en : Int} {s : Pz} : Stays s (openZ en s) := fun a s1 h => by
  unfold openZ at h
  split at h
  · cases h
  · cases h; rfl
theorem fieldZ_stays {en : Int} {s : Pz} : Stays s (fieldZ en s) := fun a s1 h => by
  unfold fieldZ at h
  split at h
  · cases h
  · split at h
    · cases h; rfl
    · cases h
theorem wholeZ_stays {en m : Int} {s : Pz} : Stays s (wholeZ en m s) := fun a s1 h => by
  unfold wholeZ at h
  split at h
  · cases h
  · split at h
    · cases h; rfl
    · cases h
theorem node_leaf {n : Nz} {s s2 : Pz} (h0 : n.k0 = -1) (h1 : n.k1 = -1) (h2 : n.k2 = -1) (ht : s2.tree = s.tree) : LaysW s (nodeZ n s2) := fun a s1 h => by
  unfold nodeZ at h
  cases h
  refine ⟨[n], by simp [ht], ?_, by simp [ht]⟩
  have := (Row15.nil (base := (s.tree.length : Int))).node (by omega) (n := n) ⟨.inl h0, .inl h1, .inl h2⟩ (fun v hv => by unfold Nz.cnt; rw [if_neg (by omega), if_neg (by omega), if_neg (by omega)]; rfl)
  simpa using this
/-- the wholes that a row of kids tells -/
def LaysR (s : Pz) (ks : List Int) (s1 : Pz) : Prop := ∃ l, s1.tree = s.tree ++ l ∧ Row15 s.tree.length l ks
theorem LaysR.nil {s s1 : Pz} (h : s1.tree = s.tree) : LaysR s [] s1 := ⟨[], by simp [h], Row15.nil⟩
theorem LaysR.step {s s1 s2 : Pz} {ks : List Int} {lev : Pz → Rz Int} {a : Int} (h : LaysR s ks s1) (hl : LaysW s1 (lev s1)) (hr : lev s1 = .ok a s2) : LaysR s (ks ++ [a]) s2 := by
  obtain ⟨l, h1, h2⟩ := h
  obtain ⟨b, h3, h4, h5⟩ := hl a s2 hr
  have e : ((s1.tree.length : Nat) : Int) = s.tree.length + l.length := by rw [h1]; simp
  rw [e] at h4
  refine ⟨l ++ b, by rw [h3, h1, List.append_assoc], ?_⟩
  have := Row15.snoc h2 h4
  rwa [show (s.tree.length : Int) + l.length + b.length - 1 = a by rw [h5, e]] at this
theorem LaysR.same {s s1 s2 : Pz} {ks : List Int} (h : LaysR s ks s1) (e : s2.tree = s1.tree) : LaysR s ks s2 := by
  obtain ⟨l, h1, h2⟩ := h
  exact ⟨l, by rw [e, h1], h2⟩
theorem count_three (a b c v : Int) : ([a, b, c] : List Int).count v = (if a = v then 1 else 0) + (if b = v then 1 else 0) + (if c = v then 1 else 0) := by
  simp only [List.count_cons, List.count_nil, beq_iff_eq]
  omega
/-- a node above a row of at most three wholes -/
theorem LaysR.node {s s1 : Pz} {ks : List Int} (h : LaysR s ks s1) {n : Nz} (hn : n.k0 = ks.getD 0 (-1) ∧ n.k1 = ks.getD 1 (-1) ∧ n.k2 = ks.getD 2 (-1)) (hk : ks.length ≤ 3) : LaysW s (nodeZ n s1) := fun a s2 hr => by
  unfold nodeZ at hr
  cases hr
  obtain ⟨l, h1, h2⟩ := h
  have hm := h2.mem
  refine ⟨l ++ [n], by rw [h1, List.append_assoc], h2.node (by omega) ?_ ?_, by rw [h1]; simp; omega⟩
  · obtain ⟨e0, e1, e2⟩ := hn
    unfold okN okK
    match ks, hk with
    | [], _ => simp at e0 e1 e2; simp [e0, e1, e2]
    | [x], _ => simp at e0 e1 e2; have := hm x (by simp); simp [e0, e1, e2]; omega
    | [x, y], _ => simp at e0 e1 e2; have := hm x (by simp); have := hm y (by simp); simp [e0, e1, e2]; omega
    | [x, y, z], _ => simp at e0 e1 e2; have := hm x (by simp); have := hm y (by simp); have := hm z (by simp); simp [e0, e1, e2]; omega
  · intro v hv
    obtain ⟨e0, e1, e2⟩ := hn
    unfold Nz.cnt
    match ks, hk with
    | [], _ => simp at e0 e1 e2; rw [e0, e1, e2, if_neg (by omega)]; rfl
    | [x], _ => simp at e0 e1 e2; rw [e0, e1, e2, if_neg (show ¬ (-1 : Int) = v by omega)]; simp [List.count_cons]
    | [x, y], _ => simp at e0 e1 e2; rw [e0, e1, e2, if_neg (show ¬ (-1 : Int) = v by omega)]; simp only [List.count_cons, List.count_nil, beq_iff_eq]; omega
    | [x, y, z], _ => simp at e0 e1 e2; rw [e0, e1, e2, count_three]
end Go.Proofs.YtdaokholmlpfkaaDoor
namespace Go.Proofs.YtdaokholmlpfkaaDoor
set_option linter.unusedVariables false
set_option linter.unusedSimpArgs false

def LevW (lev : Pz → Rz Int) : Prop := ∀ s, LaysW s (lev s)
theorem argZ_lays {en : Int} {lev : Pz → Rz Int} (hl : LevW lev) {most : Int} {a : Az} {x : Nz} {ks : List Int} {s0 s s1 : Pz} {y : Nz × List Int} (h : LaysR s0 ks s) (hr : argZ en lev most a x ks s = .ok y s1) : LaysR s0 y.2 s1 ∧ y.2.length ≤ ks.length + 1 := by
  cases a with
  | e =>
    unfold argZ at hr
    cases hk : lev s with
    | bad p e => rw [hk] at hr; cases hr
    | ok k s2 =>
      rw [hk] at hr
      cases hr
      exact ⟨h.step (hl s) hk, by simp⟩
  | f =>
    unfold argZ at hr
    cases hk : fieldZ en s with
    | bad p e => rw [hk] at hr; cases hr
    | ok k s2 =>
      rw [hk] at hr
      cases hr
      exact ⟨h.same (fieldZ_stays _ _ hk), by simp⟩
  | w =>
    unfold argZ at hr
    cases hk : wholeZ en most s with
    | bad p e => rw [hk] at hr; cases hr
    | ok k s2 =>
      rw [hk] at hr
      cases hr
      exact ⟨h.same (wholeZ_stays _ _ hk), by simp⟩
theorem argsZ_lays {en : Int} {lev : Pz → Rz Int} (hl : LevW lev) {most : Int} : ∀ (az : List Az) (first : Bool) (x : Nz) (ks : List Int) (s0 s s1 : Pz) (y : Nz × List Int), LaysR s0 ks s → argsZ en lev most first az x ks s = .ok y s1 → LaysR s0 y.2 s1 ∧ y.2.length ≤ ks.length + az.length
  | [], first, x, ks, s0, s, s1, y, h, hr => by
    unfold argsZ at hr
    cases hr
    exact ⟨h, by simp⟩
  | a :: az, first, x, ks, s0, s, s1, y, h, hr => by
    unfold argsZ at hr
    have h0 : ∀ u s2, (if first = true then Rz.ok () s else mustZ en (bz ",") s) = .ok u s2 → s2.tree = s.tree := fun u s2 k => by
      cases first
      · exact mustZ_stays _ _ k
      · cases k; rfl
    generalize (if first = true then Rz.ok () s else mustZ en (bz ",") s) = r0 at hr h0
    cases r0 with
    | bad p e => cases hr
    | ok u s2 =>
      rw [Rz.bind_ok] at hr
      cases hA : argZ en lev most a x ks s2 with
      | bad p e => rw [hA] at hr; cases hr
      | ok z s3 =>
        rw [hA, Rz.bind_ok] at hr
        obtain ⟨h1, h2⟩ := argZ_lays hl (h.same (h0 u s2 rfl)) hA
        obtain ⟨h3, h4⟩ := argsZ_lays hl az false z.1 z.2 s0 s3 s1 y h1 hr
        exact ⟨h3, by simp only [List.length_cons]; omega⟩
theorem callRun_lays {en : Int} {lev : Pz → Rz Int} (hl : LevW lev) {c : Int × List Az × Int} (hc : c.2.1.length ≤ 3) (s : Pz) : LaysW s (callRun en lev c s) := by
  unfold callRun
  refine Stays.bind (s := s) ?_ fun _ s1 _ => Stays.bind mustZ_stays fun _ s2 _ => ?_
  · intro a s1 h
    split at h
    · exact openZ_stays (s := s.next) a s1 h
    · cases h; rfl
  · intro a s9 h
    cases hA : argsZ en lev c.2.2 true c.2.1 (nz0 c.1 (placeZ en s.l)) [] s2 with
    | bad p e => rw [hA] at h; cases h
    | ok y s3 =>
      rw [hA, Rz.bind_ok] at h
      obtain ⟨h1, h2⟩ := argsZ_lays hl _ _ _ _ s2 s2 s3 y (LaysR.nil rfl) hA
      cases hM : mustZ en (bz ")") s3 with
      | bad p e => rw [hM] at h; cases h
      | ok u s4 =>
        rw [hM, Rz.bind_ok] at h
        have h5 : LaysR s2 y.2 s4.close := (h1.same (mustZ_stays _ _ hM)).same rfl
        exact (h5.node (n := kidsZ y.1 y.2) ⟨rfl, rfl, rfl⟩ (by simp at h2; omega)) a s9 h
theorem callZ_few {x : ByteArray} {c : Int × List Az × Int} (h : callZ x = some c) : c.2.1.length ≤ 3 := by
  unfold callZ at h
  cases hf : callsZ.find? (fun c => decide (c.1 = x)) with
  | none => rw [hf] at h; cases h
  | some d =>
    rw [hf] at h
    cases h
    have := List.mem_of_find?_eq_some hf
    unfold callsZ at this
    simp only [List.mem_cons, List.not_mem_nil, or_false] at this
    rcases this with rfl | rfl | rfl | rfl | rfl | rfl | rfl | rfl | rfl | rfl | rfl | rfl <;> simp
theorem atomZ_lays {en : Int} {lev : Pz → Rz Int} (hl : LevW lev) (s : Pz) : LaysW s (atomZ en lev s) := by
  unfold atomZ
  split
  · exact LaysW.fail
  · split
    · exact node_leaf rfl rfl rfl rfl
    · split
      · exact node_leaf rfl rfl rfl rfl
      · split
        · exact node_leaf rfl rfl rfl rfl
        · split
          · rename_i hc
            exact callRun_lays hl (callZ_few hc) s
          · split
            · refine Stays.bind openZ_stays fun _ s1 _ => ?_
              intro a s9 h
              cases hk : lev s1.next with
              | bad p e => rw [hk] at h; cases h
              | ok k s2 =>
                rw [hk, Rz.bind_ok] at h
                cases hM : mustZ en (bz ")") s2 with
                | bad p e => rw [hM] at h; cases h
                | ok u s3 =>
                  rw [hM, Rz.bind_ok] at h
                  cases h
                  obtain ⟨b, h1, h2, h3⟩ := hl s1.next _ s2 hk
                  exact ⟨b, by show s3.tree = _; rw [mustZ_stays _ _ hM, h1]; rfl, h2, h3⟩
            · exact Stays.bind fieldZ_stays fun x s1 _ => node_leaf rfl rfl rfl rfl
theorem aheadZ_lays {en : Int} {self up : Pz → Rz Int} (h1 : LevW self) (h2 : LevW up) {x : ByteArray} {op : Int} (s : Pz) : LaysW s (aheadZ en self up x op s) := by
  unfold aheadZ
  split
  · refine Stays.bind openZ_stays fun _ s1 _ => ?_
    intro a s9 h
    cases hk : self s1.next with
    | bad p e => rw [hk] at h; cases h
    | ok k s2 =>
      rw [hk, Rz.bind_ok] at h
      have hL : LaysR s1 [k] s2.close := ((LaysR.nil (s := s1) (s1 := s1.next) rfl).step (h1 s1.next) hk).same rfl
      exact (hL.node (n := { nz0 op (placeZ en s.l) with k0 := k }) ⟨rfl, rfl, rfl⟩ (by simp)) a s9 h
  · exact h2 s
theorem loopZ_lays {en : Int} {lev : Pz → Rz Int} (hl : LevW lev) {n : Nat} : ∀ (f : Nat) (a : Int) (s0 s : Pz), LaysR s0 [a] s → LaysW s0 (loopZ en lev n f a s)
  | 0, a, s0, s, h => LaysW.bad
  | f + 1, a, s0, s, h => by
    intro r s9 hr
    unfold loopZ at hr
    split at hr
    · cases hr
      obtain ⟨l, h1, h2⟩ := h
      generalize hks : [a] = ks at h2
      cases h2 with
      | nil => cases hks
      | snoc hrow hw =>
        rename_i l0 b ks0
        have hk0 : ks0 = [] := by
          cases ks0 with
          | nil => rfl
          | cons z zs => cases zs <;> simp at hks
        subst hk0
        have hl0 : l0 = [] := by
          generalize hq : ([] : List Int) = q at hrow
          cases hrow with
          | nil => rfl
          | snoc _ _ => simp at hq
        subst hl0
        simp at hks hw h1
        exact ⟨b, h1, hw, hks⟩
    · cases hk : lev s.next with
      | bad p e => rw [hk] at hr; cases hr
      | ok b s1 =>
        rw [hk, Rz.bind_ok] at hr
        have hL : LaysR s0 ([a] ++ [b]) s1 := (h.same (s2 := s.next) rfl).step (hl s.next) hk
        have hN := hL.node (n := { nz0 (infixZ n s.l) (placeZ en s.l) with k0 := a, k1 := b }) ⟨rfl, rfl, rfl⟩ (by simp)
        cases hnd : nodeZ { nz0 (infixZ n s.l) (placeZ en s.l) with k0 := a, k1 := b } s1 with
        | bad p e => rw [hnd] at hr; cases hr
        | ok a2 s2 =>
          rw [hnd, Rz.bind_ok] at hr
          obtain ⟨bb, g1, g2, g3⟩ := hN a2 s2 hnd
          split at hr
          · cases hr
            exact ⟨bb, g1, g2, g3⟩
          · refine loopZ_lays hl f a2 s0 s2 ⟨bb, g1, ?_⟩ r s9 hr
            have := (Row15.nil (base := (s0.tree.length : Int))).snoc (b := bb) (by simpa using g2)
            simp only [List.nil_append, List.length_nil] at this
            rw [show (s0.tree.length : Int) + ((0 : Nat) : Int) + bb.length - 1 = a2 by omega] at this
            exact this
theorem levZ_lays (en : Int) : ∀ (f n : Nat), LevW (levZ en f n)
  | 0, n => fun s => LaysW.bad
  | f + 1, n => fun s => by
    unfold levZ
    split
    · exact atomZ_lays (levZ_lays en f 0) s
    · split
      · exact aheadZ_lays (levZ_lays en f 2) (levZ_lays en f 3) s
      · split
        · exact aheadZ_lays (levZ_lays en f 6) (levZ_lays en f 7) s
        · intro r s9 hr
          cases hk : levZ en f (n + 1) s with
          | bad p e => rw [hk] at hr; cases hr
          | ok a s1 =>
            rw [hk, Rz.bind_ok] at hr
            exact loopZ_lays (levZ_lays en f (n + 1)) _ a s s1 ((LaysR.nil (s := s) (s1 := s) rfl).step (levZ_lays en f (n + 1) s) hk) r s9 hr
end Go.Proofs.YtdaokholmlpfkaaDoor
namespace Go.Proofs.YtdaokholmlpfkaaDoor
set_option linter.unusedVariables false
set_option linter.unusedSimpArgs false

def oneT (t : Tk) : Prop := t.kind = 3 ∧ t.text = bz "("
theorem not_open : bz "(" ≠ bz "not" ∧ bz "(" ≠ bz "-" ∧ bz "(" ≠ bz "true" ∧ bz "(" ≠ bz "false" ∧ callZ (bz "(") = none := by
  refine ⟨?_, ?_, ?_, ?_, ?_⟩ <;> decide +kernel
theorem infix_nil (n : Nat) : infixZ n [] = 0 := by
  by_cases h : infixZ n [] = 0
  · exact h
  · obtain ⟨t, r, e⟩ := infix_cons h
    cases e
theorem loop_end {en : Int} {lev : Pz → Rz Int} {n f : Nat} {a : Int} {s : Pz} (h : s.l = []) : loopZ en lev n (f + 1) a s = .ok a s := by
  unfold loopZ
  rw [h, infix_nil, if_pos rfl]
theorem isZ_open {t : Tk} (ht : oneT t) {l : List Tk} {x : ByteArray} (hx : bz "(" ≠ x) : isZ (t :: l) x = false := by
  show (decide (t.text = x) && decide (t.kind ≠ 2)) = false
  rw [ht.2, decide_eq_false hx]
  rfl
/-- the levels over a parenthesis: what the atom tells, if nothing is left, or it is given up -/
theorem lev_open {en : Int} {t : Tk} (ht : oneT t) {s : Pz} {l : List Tk} (hs : s.l = t :: l) : ∀ (k n f : Nat), k + n = 7 → ∀ (R : Rz Int), atomZ en (levZ en f 0) s = R → ((∃ a s1, R = .ok a s1 ∧ s1.l = []) ∨ ∃ p e, R = .bad p e) → levZ en (f + 1 + k) n s = R
  | 0, n, f, hn, R, hR, hc => by
    obtain rfl : n = 7 := by omega
    rw [Nat.add_zero]
    unfold levZ
    rw [if_pos rfl]
    exact hR
  | k + 1, n, f, hn, R, hR, hc => by
    have ih := lev_open ht hs k (n + 1) f (by omega) R hR hc
    rw [show f + 1 + (k + 1) = (f + 1 + k) + 1 by omega]
    unfold levZ
    rw [if_neg (by omega)]
    by_cases h2 : n = 2
    · subst h2
      rw [if_pos rfl]
      unfold aheadZ
      rw [hs, isZ_open ht not_open.1, if_neg (by simp)]
      exact ih
    · rw [if_neg h2]
      by_cases h6 : n = 6
      · subst h6
        rw [if_pos rfl]
        unfold aheadZ
        rw [hs, isZ_open ht not_open.2.1, if_neg (by simp)]
        exact ih
      · rw [if_neg h6, ih]
        rcases hc with ⟨a, s1, h1, h3⟩ | ⟨p, e, h1⟩
        · rw [h1, Rz.bind_ok, h3]
          exact loop_end h3
        · rw [h1]
          rfl
def openT : Tk := ⟨3, bz "(", 0, 0, 0⟩
theorem paren_atom {en en2 : Int} {l : List Tk} {F f : Nat} (hF : F ≤ f) {a : Int} {s : Pz} (h : levZ en F 0 ⟨l, 0, []⟩ = .ok a s) (hl : s.l = []) :
    (∃ s1, atomZ en2 (levZ en2 f 0) ⟨openT :: (l.map Tk.sh ++ [shutT en]), 0, []⟩ = .ok a s1 ∧ s1.l = [] ∧ s1.tree = s.tree.map Nz.sh) ∨ ∃ p, atomZ en2 (levZ en2 f 0) ⟨openT :: (l.map Tk.sh ++ [shutT en]), 0, []⟩ = .bad p 10 := by
  have hk : openT.kind = 3 := rfl
  have ht : openT.text = bz "(" := rfl
  obtain ⟨_, _, n3, n4, n5⟩ := not_open
  unfold atomZ
  dsimp only
  rw [hk, ht, if_neg (by omega), if_neg n3, if_neg n4, n5]
  dsimp only
  rw [if_pos rfl]
  unfold openZ
  dsimp only
  rw [if_neg (by omega), Rz.bind_ok]
  have e : (Pz.next ⟨openT :: (l.map Tk.sh ++ [shutT en]), 0 + 1, []⟩) = (⟨l, 0, []⟩ : Pz).in en := by simp [Pz.next, Pz.in]
  rw [e]
  rcases levZ_sim en en2 F f 0 hF ⟨l, 0, []⟩ a s h with h1 | ⟨p, h1⟩
  · left
    rw [h1, Rz.bind_ok]
    have e2 : (s.in en).l = [shutT en] := by simp [Pz.in, hl]
    have hz : isZ (s.in en).l (bz ")") = true := by
      rw [e2]
      show (decide ((shutT en).text = bz ")") && decide ((shutT en).kind ≠ 2)) = true
      simp [shutT]
    unfold mustZ
    rw [if_pos hz, Rz.bind_ok]
    refine ⟨_, rfl, ?_, ?_⟩
    · simp [Pz.close, Pz.next, e2]
    · simp [Pz.close, Pz.next, Pz.in]
  · right
    rw [h1]
    exact ⟨p, rfl⟩
theorem parse_paren {en en2 : Int} {l : List Tk} {T : List Nz} (hb : ∀ p e, levZ en (9 * l.length + 9) 0 ⟨l, 0, []⟩ = .bad p e → e ≠ 0) (h : parseZ en l = (0, 0, T)) : parseZ en2 (openT :: (l.map Tk.sh ++ [shutT en])) = (0, 0, T.map Nz.sh) ∨ ∃ p, parseZ en2 (openT :: (l.map Tk.sh ++ [shutT en])) = (p, 10, []) := by
  unfold parseZ at h
  cases hL : levZ en (9 * l.length + 9) 0 ⟨l, 0, []⟩ with
  | bad p e =>
    rw [hL, Rz.bind_bad] at h
    dsimp only at h
    injection h with _ h
    injection h with h _
    exact absurd h (hb p e hL)
  | ok a s =>
    rw [hL, Rz.bind_ok] at h
    by_cases hs : s.l.length = 0
    · rw [if_pos hs] at h
      dsimp only at h
      have hs0 := List.eq_nil_of_length_eq_zero hs
      by_cases h100 : 100 < s.tree.length
      · rw [if_pos h100] at h
        injection h with _ h
        injection h with h _
        omega
      · rw [if_neg h100] at h
        injection h with _ h
        injection h with _ hT
        subst hT
        have hlen : (openT :: (l.map Tk.sh ++ [shutT en])).length = l.length + 2 := by simp
        have hA := paren_atom (en2 := en2) (F := 9 * l.length + 9) (f := 9 * l.length + 19) (by omega) hL hs0
        unfold parseZ
        rw [hlen, show 9 * (l.length + 2) + 9 = (9 * l.length + 19) + 1 + 7 by omega]
        rcases hA with ⟨s1, h1, h2, h3⟩ | ⟨p, h1⟩
        · left
          rw [lev_open (t := openT) ⟨rfl, rfl⟩ rfl 7 0 _ (by omega) _ h1 (.inl ⟨a, s1, rfl, h2⟩), Rz.bind_ok, h2]
          simp only [List.length_nil, if_true]
          rw [h3]
          simp only [List.length_map]
          rw [if_neg h100]
        · right
          rw [lev_open (t := openT) ⟨rfl, rfl⟩ rfl 7 0 _ (by omega) _ h1 (.inr ⟨p, 10, rfl⟩), Rz.bind_bad]
          exact ⟨p, rfl⟩
    · rw [if_neg hs] at h
      unfold failZ at h
      dsimp only at h
      injection h with _ h
      injection h with h _
      omega
end Go.Proofs.YtdaokholmlpfkaaDoor
namespace Go.Proofs.YtdaokholmlpfkaaDoor
set_option linter.unusedVariables false
set_option linter.unusedSimpArgs false

def NZ {α : Type} (r : Rz α) : Prop := ∀ p e, r = .bad p e → e ≠ 0
theorem NZ.ok {α : Type} {a : α} {s : Pz} : NZ (.ok a s) := fun p e h => by cases h
theorem NZ.bad {α : Type} {p e : Int} (h : e ≠ 0) : NZ (.bad p e : Rz α) := fun p e k => by cases k; exact h
theorem NZ.bind {α β : Type} {r : Rz α} {f : α → Pz → Rz β} (h : NZ r) (hf : ∀ a s, r = .ok a s → NZ (f a s)) : NZ (r.bind f) := by
  cases r with
  | ok a s => exact hf a s rfl
  | bad p e => intro q x k; exact h q x (by cases k; rfl)
theorem mustZ_nz {en : Int} {x : ByteArray} {s : Pz} : NZ (mustZ en x s) := by
  unfold mustZ
  split
  · exact NZ.ok
  · exact NZ.bad (by omega)
theorem openZ_nz {en : Int} {s : Pz} : NZ (openZ en s) := by
  unfold openZ
  split
  · exact NZ.bad (by omega)
  · exact NZ.ok
theorem fieldZ_nz {en : Int} {s : Pz} : NZ (fieldZ en s) := by
  unfold fieldZ
  split
  · exact NZ.bad (by omega)
  · split
    · exact NZ.ok
    · exact NZ.bad (by omega)
theorem wholeZ_nz {en m : Int} {s : Pz} : NZ (wholeZ en m s) := by
  unfold wholeZ
  split
  · exact NZ.bad (by omega)
  · split
    · exact NZ.ok
    · exact NZ.bad (by omega)
def LevN (lev : Pz → Rz Int) (m : Nat) : Prop := ∀ s, s.l.length ≤ m → NZ (lev s)
theorem argsZ_nz {en : Int} {lev : Pz → Rz Int} {m : Nat} (hs : LevSh lev) (hl : LevN lev m) {most : Int} : ∀ (az : List Az) (first : Bool) (x : Nz) (ks : List Int) (s : Pz), s.l.length ≤ m → NZ (argsZ en lev most first az x ks s)
  | [], first, x, ks, s, h => NZ.ok
  | a :: az, first, x, ks, s, h => by
    unfold argsZ
    refine NZ.bind ?_ fun u s2 h2 => NZ.bind ?_ fun y s3 h3 => argsZ_nz hs hl az _ _ _ s3 ?_
    · split
      · exact NZ.ok
      · exact mustZ_nz
    · have hm : s2.l.length ≤ m := by
        split at h2
        · cases h2; exact h
        · exact mustZ_sh h u s2 h2
      cases a with
      | e => exact (hl s2 hm).bind fun _ _ _ => NZ.ok
      | f => exact fieldZ_nz.bind fun _ _ _ => NZ.ok
      | w => exact wholeZ_nz.bind fun _ _ _ => NZ.ok
    · have hm : s2.l.length ≤ m := by
        split at h2
        · cases h2; exact h
        · exact mustZ_sh h u s2 h2
      exact argZ_sh hs hm y s3 h3
theorem callRun_nz {en : Int} {lev : Pz → Rz Int} {s : Pz} (hs : LevSh lev) (hl : LevN lev (s.l.length - 1)) {c : Int × List Az × Int} : NZ (callRun en lev c s) := by
  unfold callRun
  refine NZ.bind ?_ fun u s1 h1 => mustZ_nz.bind fun v s2 h2 => NZ.bind (argsZ_nz hs hl _ _ _ _ s2 ?_) fun y s3 h3 => mustZ_nz.bind fun _ s4 h4 => NZ.ok
  · split
    · exact openZ_nz
    · exact NZ.ok
  · have hm : s1.l.length ≤ s.l.length - 1 := by
      split at h1
      · exact openZ_sh (Nat.le_of_eq (next_len s)) u s1 h1
      · cases h1; exact Nat.le_of_eq (next_len s)
    exact mustZ_sh hm v s2 h2
theorem atomZ_nz {en : Int} {lev : Pz → Rz Int} {s : Pz} (hs : LevSh lev) (hl : LevN lev (s.l.length - 1)) : NZ (atomZ en lev s) := by
  unfold atomZ
  split
  · exact NZ.bad (by omega)
  · split
    · exact NZ.ok
    · split
      · exact NZ.ok
      · split
        · exact NZ.ok
        · split
          · exact callRun_nz hs hl
          · split
            · refine openZ_nz.bind fun u s1 h1 => NZ.bind (hl _ ?_) fun a s2 h2 => mustZ_nz.bind fun _ _ _ => NZ.ok
              rw [next_len]
              have := openZ_sh (Nat.le_refl _) u s1 h1
              omega
            · exact fieldZ_nz.bind fun _ _ _ => NZ.ok
theorem aheadZ_nz {en : Int} {self up : Pz → Rz Int} {s : Pz} (h1 : LevN self (s.l.length - 1)) (h2 : NZ (up s)) {x : ByteArray} {op : Int} : NZ (aheadZ en self up x op s) := by
  unfold aheadZ
  split
  · refine openZ_nz.bind fun u s1 k1 => NZ.bind (h1 _ ?_) fun a s2 k2 => NZ.ok
    rw [next_len]
    have := openZ_sh (Nat.le_refl _) u s1 k1
    omega
  · exact h2
theorem loopZ_nz {en : Int} {lev : Pz → Rz Int} {m : Nat} (hs : LevSh lev) (hl : LevN lev (m - 1)) {n : Nat} : ∀ (f : Nat) (a : Int) (s : Pz), s.l.length < f → s.l.length ≤ m → NZ (loopZ en lev n f a s)
  | 0, a, s, h, hm => absurd h (by omega)
  | f + 1, a, s, h, hm => by
    unfold loopZ
    split
    · exact NZ.ok
    · rename_i h0
      obtain ⟨t, r, hc⟩ := infix_cons h0
      have hpos : 0 < s.l.length := by rw [hc]; simp
      refine NZ.bind (hl _ (by rw [next_len]; omega)) fun b s1 k1 => NZ.bind NZ.ok fun a2 s2 k2 => ?_
      have h1 := hs s.next b s1 k1
      rw [next_len] at h1
      have h2 : s2.l = s1.l := by
        unfold nodeZ at k2
        cases k2
        rfl
      split
      · exact NZ.ok
      · exact loopZ_nz hs hl f a2 s2 (by rw [h2]; omega) (by rw [h2]; omega)
theorem levZ_nz (en : Int) : ∀ (f n : Nat) (s : Pz), n ≤ 7 → 9 * s.l.length + (7 - n) < f → NZ (levZ en f n s)
  | 0, n, s, hn, h => absurd h (by omega)
  | f + 1, n, s, hn, h => by
    have sub : ∀ k, k ≤ 7 → s.l.length = 0 ∨ 9 * (s.l.length - 1) + (7 - k) < f → 0 < s.l.length → LevN (levZ en f k) (s.l.length - 1) := fun k hk hc hp s1 h1 => levZ_nz en f k s1 hk (by omega)
    unfold levZ
    split
    · by_cases hp : 0 < s.l.length
      · exact atomZ_nz (levZ_sh en f 0) (sub 0 (by omega) (.inr (by omega)) hp)
      · have : s.l = [] := List.eq_nil_of_length_eq_zero (by omega)
        unfold atomZ
        rw [this]
        exact NZ.bad (by omega)
    · split
      · by_cases hp : 0 < s.l.length
        · exact aheadZ_nz (sub 2 (by omega) (.inr (by omega)) hp) (levZ_nz en f 3 s (by omega) (by omega))
        · unfold aheadZ
          rw [List.eq_nil_of_length_eq_zero (show s.l.length = 0 by omega), if_neg (by simp [isZ])]
          exact levZ_nz en f 3 s (by omega) (by omega)
      · split
        · by_cases hp : 0 < s.l.length
          · exact aheadZ_nz (sub 6 (by omega) (.inr (by omega)) hp) (levZ_nz en f 7 s (by omega) (by omega))
          · unfold aheadZ
            rw [List.eq_nil_of_length_eq_zero (show s.l.length = 0 by omega), if_neg (by simp [isZ])]
            exact levZ_nz en f 7 s (by omega) (by omega)
        · refine NZ.bind (levZ_nz en f (n + 1) s (by omega) (by omega)) fun a s1 h1 => ?_
          have h2 := levZ_sh en f (n + 1) s a s1 h1
          by_cases hp : 0 < s.l.length
          · exact loopZ_nz (m := s.l.length) (levZ_sh en f (n + 1)) (sub (n + 1) (by omega) (.inr (by omega)) hp) _ a s1 (by omega) h2
          · have : s1.l = [] := List.eq_nil_of_length_eq_zero (by omega)
            rw [loop_end this]
            exact NZ.ok
end Go.Proofs.YtdaokholmlpfkaaDoor

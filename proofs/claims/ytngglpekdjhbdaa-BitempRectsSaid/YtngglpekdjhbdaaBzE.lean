/- Layer 8: a node that leans is turned. -/
import Derived.Test.YtngglpekdjhbdaaBzD
import Derived.Laws.EntriesVeiled
namespace Go.Proofs.Ytngglpekdjhbdaa
open Go.RowKit Go.ChangeMaps Go.Deep
set_option linter.unusedSimpArgs false
set_option linter.unusedVariables false
set_option maxRecDepth 20000

namespace Tr
theorem turnL_steps {ns : List Nd} {p q : Nat} {l a b : Tr} {x y : It} {h t h' t' : Int} (hp : ns[p]? = some ⟨x, l.at_, (q : Int), h, t, true⟩) (hq : ns[q]? = some ⟨y, a.at_, b.at_, h', t', true⟩) (hl : rep ns l) (ha : rep ns a) (hb : rep ns b)
    (hne : p ≠ q) (pl : p ∉ l.places) (pa : p ∉ a.places) (pb : p ∉ b.places) (ql : q ∉ l.places) (qa : q ∉ a.places) (qb : q ∉ b.places) :
    ∃ n1 n2 n3, sideN ns p true = (q : Int) ∧ sideN ns q false = a.at_ ∧ hangN ns p true a.at_ = n1 ∧ n1[q]? = some ⟨y, a.at_, b.at_, h', t', true⟩ ∧ hangN n1 q false p = n2 ∧
      n2[p]? = some ⟨x, l.at_, a.at_, h, t, true⟩ ∧ rep n2 l ∧ rep n2 a ∧ sumN n2 p = n3 ∧ n3[q]? = some ⟨y, (node p l x a).at_, b.at_, h', t', true⟩ ∧ rep n3 (node p l x a) ∧ rep n3 b ∧ turnN ns p true = (sumN n3 q, (q : Int)) := by
  have e1 : sideN ns p true = (q : Int) := by simp [sideN, nodeN_some hp]
  have e2 : sideN ns q false = a.at_ := by simp [sideN, nodeN_some hq]
  have e3 : hangN ns p true a.at_ = ns.set p ⟨x, l.at_, a.at_, h, t, true⟩ := by simp [hangN, nodeN_some hp]
  have hq1 : (ns.set p ⟨x, l.at_, a.at_, h, t, true⟩)[q]? = some ⟨y, a.at_, b.at_, h', t', true⟩ := by rw [set_other (Ne.symm hne)]; exact hq
  have e4 : hangN (ns.set p ⟨x, l.at_, a.at_, h, t, true⟩) q false p = (ns.set p ⟨x, l.at_, a.at_, h, t, true⟩).set q ⟨y, p, b.at_, h', t', true⟩ := by simp [hangN, nodeN_some hq1]
  have hp2 : ((ns.set p ⟨x, l.at_, a.at_, h, t, true⟩).set q ⟨y, p, b.at_, h', t', true⟩)[p]? = some ⟨x, l.at_, a.at_, h, t, true⟩ := by rw [set_other hne, set_self hp]
  have e5 := sumN_eq hp2 (rep_set (rep_set hl pl _) ql _) (rep_set (rep_set ha pa _) qa _)
  have hl2 : rep ((ns.set p ⟨x, l.at_, a.at_, h, t, true⟩).set q ⟨y, p, b.at_, h', t', true⟩) l := rep_set (rep_set hl pl _) ql _
  have ha2 : rep ((ns.set p ⟨x, l.at_, a.at_, h, t, true⟩).set q ⟨y, p, b.at_, h', t', true⟩) a := rep_set (rep_set ha pa _) qa _
  have hb2 : rep ((ns.set p ⟨x, l.at_, a.at_, h, t, true⟩).set q ⟨y, p, b.at_, h', t', true⟩) b := rep_set (rep_set hb pb _) qb _
  have hqN : ((ns.set p ⟨x, l.at_, a.at_, h, t, true⟩).set q ⟨y, p, b.at_, h', t', true⟩)[q]? = some ⟨y, p, b.at_, h', t', true⟩ := set_self hq1
  refine ⟨_, _, _, e1, e2, e3, hq1, e4, hp2, hl2, ha2, e5, ?_, ⟨set_self hp2, rep_set hl2 pl _, rep_set ha2 pa _⟩, rep_set hb2 pb _, ?_⟩
  · rw [set_other (Ne.symm hne)]; exact hqN
  · unfold turnN
    rw [e1, show ((q : Int).toNat) = q by omega, Bool.not_true, e2, e3, e4, e5]
theorem turnR_steps {ns : List Nd} {p q : Nat} {a b r : Tr} {x y : It} {h t h' t' : Int} (hp : ns[p]? = some ⟨x, (q : Int), r.at_, h, t, true⟩) (hq : ns[q]? = some ⟨y, a.at_, b.at_, h', t', true⟩) (hr : rep ns r) (ha : rep ns a) (hb : rep ns b)
    (hne : p ≠ q) (pr : p ∉ r.places) (pa : p ∉ a.places) (pb : p ∉ b.places) (qr : q ∉ r.places) (qa : q ∉ a.places) (qb : q ∉ b.places) :
    ∃ n1 n2 n3, sideN ns p false = (q : Int) ∧ sideN ns q true = b.at_ ∧ hangN ns p false b.at_ = n1 ∧ n1[q]? = some ⟨y, a.at_, b.at_, h', t', true⟩ ∧ hangN n1 q true p = n2 ∧
      n2[p]? = some ⟨x, b.at_, r.at_, h, t, true⟩ ∧ rep n2 b ∧ rep n2 r ∧ sumN n2 p = n3 ∧ n3[q]? = some ⟨y, a.at_, (node p b x r).at_, h', t', true⟩ ∧ rep n3 a ∧ rep n3 (node p b x r) ∧ turnN ns p false = (sumN n3 q, (q : Int)) := by
  have e1 : sideN ns p false = (q : Int) := by simp [sideN, nodeN_some hp]
  have e2 : sideN ns q true = b.at_ := by simp [sideN, nodeN_some hq]
  have e3 : hangN ns p false b.at_ = ns.set p ⟨x, b.at_, r.at_, h, t, true⟩ := by simp [hangN, nodeN_some hp]
  have hq1 : (ns.set p ⟨x, b.at_, r.at_, h, t, true⟩)[q]? = some ⟨y, a.at_, b.at_, h', t', true⟩ := by rw [set_other (Ne.symm hne)]; exact hq
  have e4 : hangN (ns.set p ⟨x, b.at_, r.at_, h, t, true⟩) q true p = (ns.set p ⟨x, b.at_, r.at_, h, t, true⟩).set q ⟨y, a.at_, p, h', t', true⟩ := by simp [hangN, nodeN_some hq1]
  have hp2 : ((ns.set p ⟨x, b.at_, r.at_, h, t, true⟩).set q ⟨y, a.at_, p, h', t', true⟩)[p]? = some ⟨x, b.at_, r.at_, h, t, true⟩ := by rw [set_other hne, set_self hp]
  have e5 := sumN_eq hp2 (rep_set (rep_set hb pb _) qb _) (rep_set (rep_set hr pr _) qr _)
  have hr2 : rep ((ns.set p ⟨x, b.at_, r.at_, h, t, true⟩).set q ⟨y, a.at_, p, h', t', true⟩) r := rep_set (rep_set hr pr _) qr _
  have ha2 : rep ((ns.set p ⟨x, b.at_, r.at_, h, t, true⟩).set q ⟨y, a.at_, p, h', t', true⟩) a := rep_set (rep_set ha pa _) qa _
  have hb2 : rep ((ns.set p ⟨x, b.at_, r.at_, h, t, true⟩).set q ⟨y, a.at_, p, h', t', true⟩) b := rep_set (rep_set hb pb _) qb _
  have hqN : ((ns.set p ⟨x, b.at_, r.at_, h, t, true⟩).set q ⟨y, a.at_, p, h', t', true⟩)[q]? = some ⟨y, a.at_, p, h', t', true⟩ := set_self hq1
  refine ⟨_, _, _, e1, e2, e3, hq1, e4, hp2, hb2, hr2, e5, ?_, rep_set ha2 pa _, ⟨set_self hp2, rep_set hb2 pb _, rep_set hr2 pr _⟩, ?_⟩
  · rw [set_other (Ne.symm hne)]; exact hqN
  · unfold turnN
    rw [e1, show ((q : Int).toNat) = q by omega, Bool.not_false, e2, e3, e4, e5]
theorem rep_lk {ns : List Nd} {T : Tr} (h : rep ns T) : Lk ns T.at_ := by
  cases T with
  | nil => exact .inl rfl
  | node p l x r => exact .inr ⟨p, _, rfl, h.1⟩
theorem at_ne {T : Tr} {p : Nat} (h : p ∉ T.places) : T.at_ ≠ (p : Int) := by
  cases T with
  | nil => simp [at_]
  | node q l x r =>
    simp only [places, List.mem_cons, not_or] at h
    simp only [at_]
    omega
end Tr
open Tr
/-- what a call on a tree leaves -/
def TPost (w : World) (b : Nat) (nv fv : Value) (ns : List Nd) (fr : List Int) (root many : Int) (v : Value) (e : Ending) (w' : World) : Prop := e = .returned v ∧ TreeAt w' b nv fv ns fr root many ∧ Mod (blk nv) w w'
theorem sum_rep {w : World} {b : Nat} {nv fv : Value} {ns : List Nd} {fr : List Int} {root many : Int} (h : TreeAt w b nv fv ns fr root many) {p : Nat} {l r : Tr} {x : It} {hh t : Int} (hp : ns[p]? = some ⟨x, l.at_, r.at_, hh, t, true⟩) (hl : rep ns l) (hr : rep ns r) (pl : p ∉ l.places) (pr : p ∉ r.places) (bl : l.ht ≤ 1000) (br : r.ht ≤ 1000) :
    Calls Try.prog 126 #[.pointer (some ⟨b, 0, none⟩), .int .i64 p] w (TPost w b nv fv (sumN ns p) fr root many (.tuple #[])) :=
  sum_at h hp (rep_lk hl) (rep_lk hr) (at_ne pl) (at_ne pr) (by rw [htN_rep hl]; exact ht_nonneg l) (by rw [htN_rep hl]; exact bl) (by rw [htN_rep hr]; exact ht_nonneg r) (by rw [htN_rep hr]; exact br)
set_option maxHeartbeats 2000000 in
theorem turnL_at {w : World} {b0 : Nat} {nv fv : Value} {ns : List Nd} {fr : List Int} {root many : Int} (h0 : TreeAt w b0 nv fv ns fr root many) {p q : Nat} {l a b : Tr} {x y : It} {h t h' t' : Int} (hp : ns[p]? = some ⟨x, l.at_, (q : Int), h, t, true⟩) (hq : ns[q]? = some ⟨y, a.at_, b.at_, h', t', true⟩) (hl : rep ns l) (ha : rep ns a) (hb : rep ns b)
    (hne : p ≠ q) (pl : p ∉ l.places) (pa : p ∉ a.places) (pb : p ∉ b.places) (ql : q ∉ l.places) (qa : q ∉ a.places) (qb : q ∉ b.places) (bl : l.ht ≤ 900) (ba : a.ht ≤ 900) (bb : b.ht ≤ 900) :
    Calls Try.prog 132 #[.pointer (some ⟨b0, 0, none⟩), .int .i64 p, .bool true] w (TPost w b0 nv fv (turnN ns p true).1 fr root many (.int .i64 (turnN ns p true).2)) := by
  obtain ⟨n1, n2, n3, e1, e2, e3, hq1, e4, hp2, hl2, ha2, e5, hq3, hP, hb3, eT⟩ := turnL_steps hp hq hl ha hb hne pl pa pb ql qa qb
  have C1 := Lib.hid (side_at h0 hp true)
  have C2 := Lib.hid (side_at h0 hq false)
  have C3 := Lib.hid (hang_at h0 hp true a.at_)
  rw [e1] at C1
  rw [e2] at C2
  rw [e3] at C3
  have HQ1 := Lib.hid hq1
  have E4 := Lib.hid e4
  have S1 := Lib.hid (fun (W : World) (T2 : TreeAt W b0 nv fv n2 fr root many) => sum_rep T2 hp2 hl2 ha2 pl pa (by omega) (by omega))
  have S2 := Lib.hid (fun (W : World) (T3 : TreeAt W b0 nv fv n3 fr root many) => sum_rep T3 hq3 hP hb3 (by simp [places, Ne.symm hne, ql, qa]) qb (by simp only [ht]; omega) (by omega))
  rw [e5] at S1
  rw [eT]
  unfold TPost at S1 S2 ⊢
  dsimp only
  clear hp hq hl ha hb hl2 ha2 hP hb3 e1 e2 e3 hq1 e4 hp2 e5 hq3 eT h0
  go_enter Try.func132, Try.ntmps132
  go_wp2_with fail
  refine C1.out.mono ?_
  rintro e w1 ⟨rfl, rfl⟩
  go_wp2_with fail
  refine C2.out.mono ?_
  rintro e w1 ⟨rfl, rfl⟩
  go_wp2_with fail
  refine C3.out.mono ?_
  rintro e w2 ⟨rfl, T1, m1⟩
  have C4 := Lib.hid (hang_at T1 HQ1.out false (p : Int))
  rw [E4.out] at C4
  clear T1
  go_wp2_with fail
  refine C4.out.mono ?_
  rintro e w3 ⟨rfl, T2, m2⟩
  have C5 := Lib.hid (S1.out _ T2)
  clear T2
  go_wp2_with fail
  refine C5.out.mono ?_
  rintro e w4 ⟨rfl, T3, m3⟩
  have C6 := Lib.hid (S2.out _ T3)
  clear T3
  go_wp2_with fail
  refine C6.out.mono ?_
  rintro e w5 ⟨rfl, T4, m4⟩
  have HT := Lib.hid T4
  have HM := Lib.hid (((m1.trans m2).trans m3).trans m4)
  clear T4 m1 m2 m3 m4
  go_wp2_with fail
  go_ret
  exact ⟨rfl, HT.out, HM.out⟩
set_option maxHeartbeats 2000000 in
theorem turnR_at {w : World} {b0 : Nat} {nv fv : Value} {ns : List Nd} {fr : List Int} {root many : Int} (h0 : TreeAt w b0 nv fv ns fr root many) {p q : Nat} {a b r : Tr} {x y : It} {h t h' t' : Int} (hp : ns[p]? = some ⟨x, (q : Int), r.at_, h, t, true⟩) (hq : ns[q]? = some ⟨y, a.at_, b.at_, h', t', true⟩) (hr : rep ns r) (ha : rep ns a) (hb : rep ns b)
    (hne : p ≠ q) (pr : p ∉ r.places) (pa : p ∉ a.places) (pb : p ∉ b.places) (qr : q ∉ r.places) (qa : q ∉ a.places) (qb : q ∉ b.places) (br : r.ht ≤ 900) (ba : a.ht ≤ 900) (bb : b.ht ≤ 900) :
    Calls Try.prog 132 #[.pointer (some ⟨b0, 0, none⟩), .int .i64 p, .bool false] w (TPost w b0 nv fv (turnN ns p false).1 fr root many (.int .i64 (turnN ns p false).2)) := by
  obtain ⟨n1, n2, n3, e1, e2, e3, hq1, e4, hp2, hb2, hr2, e5, hq3, ha3, hP, eT⟩ := turnR_steps hp hq hr ha hb hne pr pa pb qr qa qb
  have C1 := Lib.hid (side_at h0 hp false)
  have C2 := Lib.hid (side_at h0 hq true)
  have C3 := Lib.hid (hang_at h0 hp false b.at_)
  rw [e1] at C1
  rw [e2] at C2
  rw [e3] at C3
  have HQ1 := Lib.hid hq1
  have E4 := Lib.hid e4
  have S1 := Lib.hid (fun (W : World) (T2 : TreeAt W b0 nv fv n2 fr root many) => sum_rep T2 hp2 hb2 hr2 pb pr (by omega) (by omega))
  have S2 := Lib.hid (fun (W : World) (T3 : TreeAt W b0 nv fv n3 fr root many) => sum_rep T3 hq3 ha3 hP qa (by simp [places, Ne.symm hne, qr, qb]) (by omega) (by simp only [ht]; omega))
  rw [e5] at S1
  rw [eT]
  unfold TPost at S1 S2 ⊢
  dsimp only
  clear hp hq hr ha hb hb2 hr2 ha3 hP e1 e2 e3 hq1 e4 hp2 e5 hq3 eT h0
  go_enter Try.func132, Try.ntmps132
  go_wp2_with fail
  refine C1.out.mono ?_
  rintro e w1 ⟨rfl, rfl⟩
  go_wp2_with fail
  refine C2.out.mono ?_
  rintro e w1 ⟨rfl, rfl⟩
  go_wp2_with fail
  refine C3.out.mono ?_
  rintro e w2 ⟨rfl, T1, m1⟩
  have C4 := Lib.hid (hang_at T1 HQ1.out true (p : Int))
  rw [E4.out] at C4
  clear T1
  go_wp2_with fail
  refine C4.out.mono ?_
  rintro e w3 ⟨rfl, T2, m2⟩
  have C5 := Lib.hid (S1.out _ T2)
  clear T2
  go_wp2_with fail
  refine C5.out.mono ?_
  rintro e w4 ⟨rfl, T3, m3⟩
  have C6 := Lib.hid (S2.out _ T3)
  clear T3
  go_wp2_with fail
  refine C6.out.mono ?_
  rintro e w5 ⟨rfl, T4, m4⟩
  have HT := Lib.hid T4
  have HM := Lib.hid (((m1.trans m2).trans m3).trans m4)
  clear T4 m1 m2 m3 m4
  go_wp2_with fail
  go_ret
  exact ⟨rfl, HT.out, HM.out⟩
theorem toLeft_at {w w0 : World} {b0 p : Nat} {nv fv : Value} {ns : List Nd} {fr : List Int} {root many i : Int} (h : Calls Try.prog 132 #[.pointer (some ⟨b0, 0, none⟩), .int .i64 p, .bool true] w (TPost w0 b0 nv fv ns fr root many (.int .i64 i))) :
    Calls Try.prog 129 #[.pointer (some ⟨b0, 0, none⟩), .int .i64 p] w (TPost w0 b0 nv fv ns fr root many (.int .i64 i)) := by
  unfold TPost at h ⊢
  have H := Lib.hid h
  clear h
  go_enter Try.func129, Try.ntmps129
  go_wp2_with fail
  refine H.out.mono ?_
  rintro e w1 ⟨rfl, hk⟩
  have HK := Lib.hid hk
  clear hk
  go_wp2_with fail
  go_ret
  exact ⟨rfl, HK.out⟩
theorem toRight_at {w w0 : World} {b0 p : Nat} {nv fv : Value} {ns : List Nd} {fr : List Int} {root many i : Int} (h : Calls Try.prog 132 #[.pointer (some ⟨b0, 0, none⟩), .int .i64 p, .bool false] w (TPost w0 b0 nv fv ns fr root many (.int .i64 i))) :
    Calls Try.prog 128 #[.pointer (some ⟨b0, 0, none⟩), .int .i64 p] w (TPost w0 b0 nv fv ns fr root many (.int .i64 i)) := by
  unfold TPost at h ⊢
  have H := Lib.hid h
  clear h
  go_enter Try.func128, Try.ntmps128
  go_wp2_with fail
  refine H.out.mono ?_
  rintro e w1 ⟨rfl, hk⟩
  have HK := Lib.hid hk
  clear hk
  go_wp2_with fail
  go_ret
  exact ⟨rfl, HK.out⟩
end Go.Proofs.Ytngglpekdjhbdaa
namespace Go.Proofs.Ytngglpekdjhbdaa
open Go.RowKit Go.ChangeMaps Go.Deep Tr
set_option linter.unusedSimpArgs false
set_option linter.unusedVariables false
set_option maxRecDepth 20000

/-- the node's own sums, and how it leans -/
structure Lean (ns : List Nd) (p : Nat) (l : Tr) (x : It) (r : Tr) : Prop where
  nd : (sumN ns p)[p]? = some (nd l x r)
  l : rep (sumN ns p) l
  r : rep (sumN ns p) r
theorem lean_of {ns : List Nd} {p : Nat} {l r : Tr} {x : It} {h t : Int} (hp : ns[p]? = some ⟨x, l.at_, r.at_, h, t, true⟩) (hl : rep ns l) (hr : rep ns r) (pl : p ∉ l.places) (pr : p ∉ r.places) : Lean ns p l x r := by
  have e1 := sumN_eq hp hl hr
  refine ⟨?_, ?_, ?_⟩
  · rw [e1]; exact set_self hp
  · rw [e1]; exact rep_set hl pl _
  · rw [e1]; exact rep_set hr pr _
theorem Lean.side {ns : List Nd} {p : Nat} {l r : Tr} {x : It} (h : Lean ns p l x r) (d : Bool) : sideN (sumN ns p) p d = if d = true then r.at_ else l.at_ := by
  cases d <;> simp [sideN, nodeN_some h.nd, Tr.nd]
theorem Lean.eq {ns : List Nd} {p : Nat} {l r : Tr} {x : It} (h : Lean ns p l x r) : leanN (sumN ns p) p = r.ht - l.ht := by
  unfold leanN; rw [h.side, h.side, if_pos rfl, if_neg (by simp), htN_rep h.r, htN_rep h.l]
set_option maxHeartbeats 4000000 in
theorem mended_even {w : World} {b0 : Nat} {nv fv : Value} {ns : List Nd} {fr : List Int} {root many : Int} (h0 : TreeAt w b0 nv fv ns fr root many) {p : Nat} {l r : Tr} {x : It} {h t : Int} (hp : ns[p]? = some ⟨x, l.at_, r.at_, h, t, true⟩) (hl : rep ns l) (hr : rep ns r) (pl : p ∉ l.places) (pr : p ∉ r.places) (bl : l.ht ≤ 800) (br : r.ht ≤ 800)
    (hb1 : -1 ≤ r.ht - l.ht) (hb2 : r.ht - l.ht ≤ 1) :
    Calls Try.prog 120 #[.pointer (some ⟨b0, 0, none⟩), .int .i64 p] w (TPost w b0 nv fv (mendedN ns p).1 fr root many (.int .i64 (mendedN ns p).2)) := by
  have hs := Lib.hid (sum_rep h0 hp hl hr pl pr (by omega) (by omega))
  have HLN := lean_of hp hl hr pl pr
  have eM : mendedN ns p = (sumN ns p, (p : Int)) := by
    unfold mendedN
    simp only [HLN.eq]
    rw [if_pos ⟨hb1, hb2⟩]
  rw [eM]
  have C1 := Lib.hid (fun (W : World) (T : TreeAt W b0 nv fv (sumN ns p) fr root many) => height_lk T (rep_lk HLN.l))
  have C2 := Lib.hid (fun (W : World) (T : TreeAt W b0 nv fv (sumN ns p) fr root many) => height_lk T (rep_lk HLN.r))
  rw [htN_rep HLN.l] at C1
  rw [htN_rep HLN.r] at C2
  have hnd := HLN.nd
  have hlt := (List.getElem?_eq_some_iff.1 hnd).1
  have hL0 := ht_nonneg l
  have hR0 := ht_nonneg r
  have HND := Lib.hid hnd
  unfold TPost at hs ⊢
  dsimp only
  unfold Tr.nd at HND
  generalize l.ht = L at *
  generalize r.ht = R at *
  generalize l.at_ = li at *
  generalize r.at_ = ri at *
  clear h0 hp hl hr pl pr HLN eM hnd
  generalize sumN ns p = N at *
  go_enter Try.func120, Try.ntmps120
  go_wp2_with fail
  refine hs.out.mono ?_
  rintro e w1 ⟨rfl, T1, m1⟩
  obtain ⟨g, cap, rfl, hg, hcap⟩ := T1.row.at_ HND.out
  have c1 := cell_blk T1.blk 1
  simp only [List.getElem?_toArray, List.getElem?_cons_succ, List.getElem?_cons_zero] at c1
  have c3 := (nd_cells T1.row HND.out 3 _ rfl).1
  have c4 := (nd_cells T1.row HND.out 4 _ rfl).1
  have T2 := T1.kept0 ((Mod.refl [] w1).drew)
  have D1 := Lib.hid (C1.out _ T2)
  have D2 := Lib.hid (C2.out _ T2)
  have HT := Lib.hid T2
  have HM := Lib.hid m1.drew
  clear T1 m1 T2 hs
  go_wp2_with fail
  refine wp_plan [([0, 1, 5, 11, 12, 16, 2, 13, 3, 14, 4, 15, 6, 17, 7, 18, 8, 19, 9, 20], 10, [13, 14, 15, 17, 18, 19, 20]), ([], 21, [])] [22, 23] (by kernel_rfl) (by kernel_rfl) ?_
  simp only [wpSegs, opsOf, List.map_cons, List.map_nil, opN, List.getD_cons_zero, List.getD_cons_succ]
  go_wp2_with fail
  refine ⟨by first | trivial | rfl, ?_⟩
  go_wp2_with fail
  refine D2.out.mono ?_
  rintro e w2 ⟨rfl, rfl⟩
  go_wp2_with fail
  refine ⟨?agA, ?_⟩
  case agA =>
    intro i hi hw
    simp only [List.mem_cons, List.not_mem_nil, or_false] at hi
    rcases hi with rfl | rfl | rfl | rfl | rfl | rfl | rfl
    all_goals (simp only [opN, List.getD_cons_zero, List.getD_cons_succ, slotOf]; go_simp)
  go_wp2_with fail
  refine ⟨by first | trivial | rfl, ?_⟩
  go_wp2_with fail
  refine D1.out.mono ?_
  rintro e w2 ⟨rfl, rfl⟩
  go_wp2_with fail
  refine ⟨again_nil, ?_⟩
  go_wp2_with fail
  refine ⟨by first | trivial | rfl, ?_⟩
  go_wp2_with fail
  go_ret
  exact ⟨rfl, HT.out, HM.out⟩
end Go.Proofs.Ytngglpekdjhbdaa
namespace Go.Proofs.Ytngglpekdjhbdaa
open Go.RowKit Go.ChangeMaps Go.Deep Tr
set_option linter.unusedSimpArgs false
set_option linter.unusedVariables false
set_option maxRecDepth 20000

/-- what a double turn to the left finds -/
theorem dblR {N : List Nd} {p q s : Nat} {l c d b : Tr} {x y z : It} (h1 : N[p]? = some (nd l x (node q (node s c z d) y b))) (hl1 : rep N l) (hr1 : rep N (node q (node s c z d) y b)) (hn : (p :: (l.places ++ (node q (node s c z d) y b).places)).Nodup) :
    ∃ N1 N2 h t, turnN N q false = (N1, (s : Int)) ∧ hangN N1 p true s = N2 ∧ N1[p]? = some (nd l x (node q (node s c z d) y b)) ∧ N2[p]? = some ⟨x, l.at_, (s : Int), h, t, true⟩ ∧ N2[s]? = some (nd c z (node q d y b)) ∧ rep N2 l ∧ rep N2 c ∧ rep N2 (node q d y b) := by
  obtain ⟨hpn, hn2⟩ := List.nodup_cons.1 hn
  obtain ⟨hnl, hnr, hdis⟩ := List.nodup_append.1 hn2
  have pl : p ∉ l.places := fun e => hpn (List.mem_append_left _ e)
  have pr : p ∉ (node q (node s c z d) y b).places := fun e => hpn (List.mem_append_right _ e)
  obtain ⟨hq1, ⟨hs1, hc1, hd1⟩, hb1⟩ := hr1
  simp only [places, List.mem_cons, List.mem_append, not_or, List.nodup_cons, List.nodup_append] at hnr pr
  obtain ⟨⟨⟨qs, qc, qd⟩, qb⟩, ⟨⟨sc, sd⟩, nc, ndd, dcd⟩, nb, dab⟩ := hnr
  obtain ⟨hpq, ⟨hps, pc, pd⟩, pb⟩ := pr
  have sb : s ∉ b.places := fun e => dab s (.inl rfl) s e rfl
  have lq : q ∉ l.places := fun e => hdis q e q (by simp [places]) rfl
  have sl : s ∉ l.places := fun e => hdis s e s (by simp [places]) rfl
  have P1 := turnR (p := q) (q := s) (a := c) (b := d) (r := b) hq1 hs1 hb1 hc1 hd1 qs qb qc qd sb sc sd
  have hp2 : (turnN N q false).1[p]? = some (nd l x (node q (node s c z d) y b)) := by
    rw [P1.other p (by simp [hpq, hps])]; exact h1
  have eh : hangN (turnN N q false).1 p true (s : Int) = (turnN N q false).1.set p ⟨x, l.at_, (s : Int), (nd l x (node q (node s c z d) y b)).h, (nd l x (node q (node s c z d) y b)).t, true⟩ := by
    simp [hangN, nodeN_some hp2, nd, at_]
  obtain ⟨r1, r2, r3⟩ := P1.rep
  have hl3 : rep (turnN N q false).1 l := rep_congr (fun i hi => P1.other i (by
    simp only [List.mem_cons, List.not_mem_nil, or_false, not_or]
    exact ⟨fun e => lq (e ▸ hi), fun e => sl (e ▸ hi)⟩)) hl1
  have pN : p ∉ (node q d y b).places := by
    simp only [places, List.mem_cons, List.mem_append, not_or]
    exact ⟨hpq, pd, pb⟩
  refine ⟨_, _, _, _, Prod.ext rfl P1.root, eh, hp2, set_self hp2, ?_, rep_set hl3 pl _, rep_set r2 pc _, rep_set r3 pN _⟩
  rw [set_other (Ne.symm hps)]; exact r1
theorem dblL {N : List Nd} {p q s : Nat} {a c d r : Tr} {x y z : It} (h1 : N[p]? = some (nd (node q a y (node s c z d)) x r)) (hl1 : rep N (node q a y (node s c z d))) (hr1 : rep N r) (hn : (p :: ((node q a y (node s c z d)).places ++ r.places)).Nodup) :
    ∃ N1 N2 h t, turnN N q true = (N1, (s : Int)) ∧ hangN N1 p false s = N2 ∧ N1[p]? = some (nd (node q a y (node s c z d)) x r) ∧ N2[p]? = some ⟨x, (s : Int), r.at_, h, t, true⟩ ∧ N2[s]? = some (nd (node q a y c) z d) ∧ rep N2 r ∧ rep N2 (node q a y c) ∧ rep N2 d := by
  obtain ⟨hpn, hn2⟩ := List.nodup_cons.1 hn
  obtain ⟨hnl, hnr, hdis⟩ := List.nodup_append.1 hn2
  have pl : p ∉ (node q a y (node s c z d)).places := fun e => hpn (List.mem_append_left _ e)
  have pr : p ∉ r.places := fun e => hpn (List.mem_append_right _ e)
  obtain ⟨hq1, ha1, ⟨hs1, hc1, hd1⟩⟩ := hl1
  simp only [places, List.mem_cons, List.mem_append, not_or, List.nodup_cons, List.nodup_append] at hnl pl
  obtain ⟨⟨qa, qs, qc, qd⟩, na, ⟨⟨sc, sd⟩, nc, ndd, dcd⟩, dab⟩ := hnl
  obtain ⟨hpq, pa, hps, pc, pd⟩ := pl
  have sa : s ∉ a.places := fun e => dab s e s (.inl rfl) rfl
  have rq : q ∉ r.places := fun e => hdis q (by simp [places]) q e rfl
  have sr : s ∉ r.places := fun e => hdis s (by simp [places]) s e rfl
  have P1 := turnL (p := q) (q := s) (l := a) (a := c) (b := d) hq1 hs1 ha1 hc1 hd1 qs qa qc qd sa sc sd
  have hp2 : (turnN N q true).1[p]? = some (nd (node q a y (node s c z d)) x r) := by
    rw [P1.other p (by simp [hpq, hps])]; exact h1
  have eh : hangN (turnN N q true).1 p false (s : Int) = (turnN N q true).1.set p ⟨x, (s : Int), r.at_, (nd (node q a y (node s c z d)) x r).h, (nd (node q a y (node s c z d)) x r).t, true⟩ := by
    simp [hangN, nodeN_some hp2, nd, at_]
  obtain ⟨r1, r2, r3⟩ := P1.rep
  have hr3 : rep (turnN N q true).1 r := rep_congr (fun i hi => P1.other i (by
    simp only [List.mem_cons, List.not_mem_nil, or_false, not_or]
    exact ⟨fun e => rq (e ▸ hi), fun e => sr (e ▸ hi)⟩)) hr1
  have pN : p ∉ (node q a y c).places := by
    simp only [places, List.mem_cons, List.mem_append, not_or]
    exact ⟨hpq, pa, pc⟩
  refine ⟨_, _, _, _, Prod.ext rfl P1.root, eh, hp2, set_self hp2, ?_, rep_set hr3 pr _, rep_set r2 pN _, rep_set r3 pd _⟩
  rw [set_other (Ne.symm hps)]; exact r1
set_option maxHeartbeats 8000000 in
theorem mended_rs {w : World} {b0 : Nat} {nv fv : Value} {ns : List Nd} {fr : List Int} {root many : Int} (h0 : TreeAt w b0 nv fv ns fr root many) {p q : Nat} {l a b : Tr} {x y : It} {h t : Int} (hp : ns[p]? = some ⟨x, l.at_, (node q a y b).at_, h, t, true⟩) (hl : rep ns l) (hr : rep ns (node q a y b)) (hn : (p :: (l.places ++ (node q a y b).places)).Nodup) (bl : l.ht ≤ 800) (br : (node q a y b).ht ≤ 800)
    (hg : 1 < (node q a y b).ht - l.ht) (hab : ¬ b.ht < a.ht) :
    Calls Try.prog 120 #[.pointer (some ⟨b0, 0, none⟩), .int .i64 p] w (TPost w b0 nv fv (mendedN ns p).1 fr root many (.int .i64 (mendedN ns p).2)) := by
  obtain ⟨hpn, hn2⟩ := List.nodup_cons.1 hn
  obtain ⟨hnl, hnr, hdis⟩ := List.nodup_append.1 hn2
  have pl : p ∉ l.places := fun e => hpn (List.mem_append_left _ e)
  have pr : p ∉ (node q a y b).places := fun e => hpn (List.mem_append_right _ e)
  have hs := Lib.hid (sum_rep h0 hp hl hr pl pr (by omega) (by omega))
  have HLN := lean_of hp hl hr pl pr
  have hL0 := ht_nonneg l
  have hA0 := ht_nonneg a
  have hB0 := ht_nonneg b
  have hH : (node q a y b).ht = 1 + max a.ht b.ht := rfl
  have g1 := HLN.side true
  have g2 := HLN.eq
  obtain ⟨hq1, ha1, hb1⟩ := HLN.r
  have t1 : sideN (sumN ns p) q true = b.at_ := by simp [sideN, nodeN_some hq1, nd]
  have t2 : sideN (sumN ns p) q false = a.at_ := by simp [sideN, nodeN_some hq1, nd]
  have gat : (node q a y b).at_ = (q : Int) := rfl
  have eM : mendedN ns p = turnN (sumN ns p) p true := by
    unfold mendedN
    simp only [g2]
    rw [if_neg (by omega), decide_eq_true (show 0 < (node q a y b).ht - l.ht by omega), g1, Bool.not_true]
    simp only [if_true]
    rw [gat, show ((q : Int).toNat) = q by omega, t1, t2, htN_rep ha1, htN_rep hb1, if_neg hab]
  rw [eM]
  have C1 := Lib.hid (fun (W : World) (T : TreeAt W b0 nv fv (sumN ns p) fr root many) => height_lk T (rep_lk HLN.l))
  have C2 := Lib.hid (fun (W : World) (T : TreeAt W b0 nv fv (sumN ns p) fr root many) => height_lk T (rep_lk HLN.r))
  have C3 := Lib.hid (fun (W : World) (T : TreeAt W b0 nv fv (sumN ns p) fr root many) => side_at T HLN.nd true)
  have C4 := Lib.hid (fun (W : World) (T : TreeAt W b0 nv fv (sumN ns p) fr root many) => side_at T hq1 false)
  have C5 := Lib.hid (fun (W : World) (T : TreeAt W b0 nv fv (sumN ns p) fr root many) => side_at T hq1 true)
  have C6 := Lib.hid (fun (W : World) (T : TreeAt W b0 nv fv (sumN ns p) fr root many) => height_lk T (rep_lk ha1))
  have C7 := Lib.hid (fun (W : World) (T : TreeAt W b0 nv fv (sumN ns p) fr root many) => height_lk T (rep_lk hb1))
  rw [htN_rep HLN.l] at C1
  rw [htN_rep HLN.r] at C2
  rw [g1] at C3
  simp only [if_true, Bool.false_eq_true, if_false] at C3
  rw [gat] at C3
  rw [t2] at C4
  rw [t1] at C5
  rw [htN_rep ha1] at C6
  rw [htN_rep hb1] at C7
  simp only [places, List.mem_cons, List.mem_append, not_or, List.nodup_cons, List.nodup_append] at hnr pr
  obtain ⟨⟨qa, qb⟩, na, nb, dab⟩ := hnr
  obtain ⟨hpq, pa, pb⟩ := pr
  have oq : q ∉ l.places := fun e => hdis q e q (by simp [places]) rfl
  have C8 := Lib.hid (fun (W : World) (T : TreeAt W b0 nv fv (sumN ns p) fr root many) => toLeft_at (turnL_at T HLN.nd hq1 HLN.l ha1 hb1 hpq pl pa pb oq qa qb (by omega) (by omega) (by omega)))
  have HND := Lib.hid HLN.nd
  unfold TPost at hs C8 ⊢
  try dsimp only
  unfold Tr.nd at HND
  generalize (node q a y b).ht = Hh at *
  generalize hAh : a.ht = Ah at *
  generalize hBh : b.ht = Bh at *
  generalize l.ht = Oh at *
  generalize hAa : a.at_ = Aa at *
  generalize hBa : b.at_ = Ba at *
  generalize l.at_ = Oa at *
  rw [gat] at HND
  try rw [gat] at C1
  try rw [gat] at C2
  clear h0 hp hl hr HLN hn hpn hn2 hdis g1 g2 hq1 ha1 hb1 t1 t2 gat eM
  try clear hnr
  try clear hnl
  have hA1 : Ah + 1 ≤ Hh := by omega
  have hB1 : Bh + 1 ≤ Hh := by omega
  clear hH
  have hd0 : decide (Hh - Oh < 0) = false := decide_eq_false (by omega)
  have hd1 : decide (0 < Hh - Oh) = true := decide_eq_true (by omega)
  have hd2 : decide (Hh < Oh) = false := decide_eq_false (by omega)
  have hd3 : decide (Oh < Hh) = true := decide_eq_true (by omega)
  generalize sumN ns p = N at *
  go_enter Try.func120, Try.ntmps120
  go_wp2_with fail
  refine hs.out.mono ?_
  rintro e w1 ⟨rfl, T1, m1⟩
  obtain ⟨g, cap, rfl, hg', hcap⟩ := T1.row.at_ HND.out
  have hlt := (List.getElem?_eq_some_iff.1 HND.out).1
  have c1 := cell_blk T1.blk 1
  simp only [List.getElem?_toArray, List.getElem?_cons_succ, List.getElem?_cons_zero] at c1
  have c3 := (nd_cells T1.row HND.out 3 _ rfl).1
  have c4 := (nd_cells T1.row HND.out 4 _ rfl).1
  have T2 := T1.kept0 ((Mod.refl [] w1).drew)
  have D1 := Lib.hid (C1.out _ T2)
  have D2 := Lib.hid (C2.out _ T2)
  have HT := Lib.hid T2
  have HM := Lib.hid m1.drew
  have TA := T1.kept0 (((Mod.refl [] w1).alloc (.cells #[.func (.func 128) #[] #[], .func (.func 129) #[] #[]] 188)).drew)
  have HMA := Lib.hid ((m1.alloc (.cells #[.func (.func 128) #[] #[], .func (.func 129) #[] #[]] 188)).drew)
  have D3 := Lib.hid (C3.out _ TA)
  have D4 := Lib.hid (C4.out _ TA)
  have D5 := Lib.hid (C5.out _ TA)
  have D6 := Lib.hid (C6.out _ TA)
  have D7 := Lib.hid (C7.out _ TA)
  have D8 := Lib.hid (C8.out _ TA)
  have hgs : g < w1.heap.size := hg'
  have hbx : ((w1.alloc (.cells #[.func (.func 128) #[] #[], .func (.func 129) #[] #[]] 188)).drew).heap[w1.heap.size]? = some (.cells #[.func (.func 128) #[] #[], .func (.func 129) #[] #[]] 188 (0, 0)) := heap_alloc_new w1 _
  have HBX := Lib.hid hbx
  clear T1 m1 T2 hs TA hbx C1 C2 C3 C4 C5 C6 C7 C8
  go_wp2_with fail
  refine wp_plan [([0, 1, 5, 11, 12, 16, 2, 13, 3, 14, 4, 15, 6, 17, 7, 18, 8, 19, 9, 20], 10, [13, 14, 15, 17, 18, 19, 20]), ([], 21, [])] [22, 23] (by kernel_rfl) (by kernel_rfl) ?_
  simp only [wpSegs, opsOf, List.map_cons, List.map_nil, opN, List.getD_cons_zero, List.getD_cons_succ]
  go_wp2_with fail
  refine ⟨by first | trivial | rfl, ?_⟩
  go_wp2_with fail
  refine D2.out.mono ?_
  rintro e w2 ⟨rfl, rfl⟩
  go_wp2_with fail
  refine ⟨?agA, ?_⟩
  case agA =>
    intro i hi hw
    simp only [List.mem_cons, List.not_mem_nil, or_false] at hi
    rcases hi with rfl | rfl | rfl | rfl | rfl | rfl | rfl
    all_goals (simp only [opN, List.getD_cons_zero, List.getD_cons_succ, slotOf]; go_simp)
  go_wp2_with fail
  refine ⟨by first | trivial | rfl, ?_⟩
  go_wp2_with fail
  refine D1.out.mono ?_
  rintro e w2 ⟨rfl, rfl⟩
  go_wp2_with fail
  refine ⟨again_nil, ?_⟩
  go_wp2_with fail
  refine ⟨by first | trivial | rfl, ?_⟩
  go_wp2_with fail
  refine D3.out.mono ?_
  rintro e w2 ⟨rfl, rfl⟩
  go_wp2_with fail
  refine D4.out.mono ?_
  rintro e w2 ⟨rfl, rfl⟩
  go_wp2_with fail
  refine D6.out.mono ?_
  rintro e w2 ⟨rfl, rfl⟩
  go_wp2_with fail
  refine D5.out.mono ?_
  rintro e w2 ⟨rfl, rfl⟩
  go_wp2_with fail
  refine D7.out.mono ?_
  rintro e w2 ⟨rfl, rfl⟩
  go_wp2_with fail
  refine D8.out.mono ?_
  rintro e w2 ⟨rfl, T2, m2⟩
  have HT2 := Lib.hid T2
  have HM2 := Lib.hid (HMA.out.trans m2)
  clear T2 m2
  go_wp2_with fail
  go_ret
  exact ⟨rfl, HT2.out, HM2.out⟩
set_option maxHeartbeats 8000000 in
theorem mended_rd {w : World} {b0 : Nat} {nv fv : Value} {ns : List Nd} {fr : List Int} {root many : Int} (h0 : TreeAt w b0 nv fv ns fr root many) {p q s : Nat} {l c d b : Tr} {x y z : It} {h t : Int} (hp : ns[p]? = some ⟨x, l.at_, (node q (node s c z d) y b).at_, h, t, true⟩) (hl : rep ns l) (hr : rep ns (node q (node s c z d) y b)) (hn : (p :: (l.places ++ (node q (node s c z d) y b).places)).Nodup) (bl : l.ht ≤ 800) (br : (node q (node s c z d) y b).ht ≤ 800)
    (hg : 1 < (node q (node s c z d) y b).ht - l.ht) (hab : b.ht < (node s c z d).ht) :
    Calls Try.prog 120 #[.pointer (some ⟨b0, 0, none⟩), .int .i64 p] w (TPost w b0 nv fv (mendedN ns p).1 fr root many (.int .i64 (mendedN ns p).2)) := by
  obtain ⟨hpn, hn2⟩ := List.nodup_cons.1 hn
  obtain ⟨hnl, hnr, hdis⟩ := List.nodup_append.1 hn2
  have pl : p ∉ l.places := fun e => hpn (List.mem_append_left _ e)
  have pr : p ∉ (node q (node s c z d) y b).places := fun e => hpn (List.mem_append_right _ e)
  have hs := Lib.hid (sum_rep h0 hp hl hr pl pr (by omega) (by omega))
  have HLN := lean_of hp hl hr pl pr
  have hL0 := ht_nonneg l
  have hA0 := ht_nonneg (node s c z d)
  have hB0 := ht_nonneg b
  have hH : (node q (node s c z d) y b).ht = 1 + max (node s c z d).ht b.ht := rfl
  have g1 := HLN.side true
  have g2 := HLN.eq
  obtain ⟨hq1, ⟨hs1, hc1, hd1⟩, hb1⟩ := HLN.r
  have ha1 : rep (sumN ns p) (node s c z d) := ⟨hs1, hc1, hd1⟩
  have t1 : sideN (sumN ns p) q true = b.at_ := by simp [sideN, nodeN_some hq1, nd]
  have t2 : sideN (sumN ns p) q false = (node s c z d).at_ := by simp [sideN, nodeN_some hq1, nd]
  have gat : (node q (node s c z d) y b).at_ = (q : Int) := rfl
  have eM : mendedN ns p = turnN (hangN (turnN (sumN ns p) q false).1 p true (turnN (sumN ns p) q false).2) p true := by
    unfold mendedN
    simp only [g2]
    rw [if_neg (by omega), decide_eq_true (show 0 < (node q (node s c z d) y b).ht - l.ht by omega), g1, Bool.not_true]
    simp only [if_true]
    rw [gat, show ((q : Int).toNat) = q by omega, t1, t2, htN_rep ha1, htN_rep hb1, if_pos hab]
  rw [eM]
  have C1 := Lib.hid (fun (W : World) (T : TreeAt W b0 nv fv (sumN ns p) fr root many) => height_lk T (rep_lk HLN.l))
  have C2 := Lib.hid (fun (W : World) (T : TreeAt W b0 nv fv (sumN ns p) fr root many) => height_lk T (rep_lk HLN.r))
  have C3 := Lib.hid (fun (W : World) (T : TreeAt W b0 nv fv (sumN ns p) fr root many) => side_at T HLN.nd true)
  have C4 := Lib.hid (fun (W : World) (T : TreeAt W b0 nv fv (sumN ns p) fr root many) => side_at T hq1 false)
  have C5 := Lib.hid (fun (W : World) (T : TreeAt W b0 nv fv (sumN ns p) fr root many) => side_at T hq1 true)
  have C6 := Lib.hid (fun (W : World) (T : TreeAt W b0 nv fv (sumN ns p) fr root many) => height_lk T (rep_lk ha1))
  have C7 := Lib.hid (fun (W : World) (T : TreeAt W b0 nv fv (sumN ns p) fr root many) => height_lk T (rep_lk hb1))
  rw [htN_rep HLN.l] at C1
  rw [htN_rep HLN.r] at C2
  rw [g1] at C3
  simp only [if_true, Bool.false_eq_true, if_false] at C3
  rw [gat] at C3
  rw [t2] at C4
  rw [t1] at C5
  rw [htN_rep ha1] at C6
  rw [htN_rep hb1] at C7
  obtain ⟨N1, N2, h2, t2', eT, eH, hp2, hp3, hs3, ho3, hc3, hd3⟩ := dblR HLN.nd HLN.l HLN.r hn
  simp only [places, List.mem_cons, List.mem_append, not_or, List.nodup_cons, List.nodup_append] at hnr pr
  obtain ⟨⟨⟨qs, qc, qd⟩, qo⟩, ⟨⟨sc, sd⟩, nc, ndd, dcd⟩, nb, dab⟩ := hnr
  obtain ⟨hpq, ⟨hps, pc, pd⟩, po⟩ := pr
  have so : s ∉ b.places := fun e => dab s (.inl rfl) s e rfl
  have oq : q ∉ l.places := fun e => hdis q e q (by simp [places]) rfl
  have os : s ∉ l.places := fun e => hdis s e s (by simp [places]) rfl
  have hc0 := ht_nonneg c
  have hd0 := ht_nonneg d
  have hA : (node s c z d).ht = 1 + max c.ht d.ht := rfl
  have C8 := Lib.hid (fun (W : World) (T : TreeAt W b0 nv fv (sumN ns p) fr root many) => toRight_at (turnR_at T hq1 hs1 hb1 hc1 hd1 qs qo qc qd so sc sd (by omega) (by omega) (by omega)))
  rw [eT] at C8
  have C9 := Lib.hid (fun (W : World) (T : TreeAt W b0 nv fv N1 fr root many) => hang_at T hp2 true (s : Int))
  rw [eH] at C9
  have hbig : (node q d y b).ht = 1 + max d.ht b.ht := rfl
  have C10 := Lib.hid (fun (W : World) (T : TreeAt W b0 nv fv N2 fr root many) => toLeft_at (turnL_at T hp3 hs3 ho3 hc3 hd3 hps pl pc (by simp [places, hpq, pd, po]) os sc (by simp [places, Ne.symm qs, sd, so]) (by omega) (by omega) (by omega)))
  rw [eT]
  dsimp only
  rw [eH]
  dsimp only at C8
  have HND := Lib.hid HLN.nd
  unfold TPost at hs C8 C10 ⊢
  try dsimp only
  unfold Tr.nd at HND
  generalize (node q (node s c z d) y b).ht = Hh at *
  generalize hAh : (node s c z d).ht = Ah at *
  generalize hBh : b.ht = Bh at *
  generalize l.ht = Oh at *
  generalize hAa : (node s c z d).at_ = Aa at *
  generalize hBa : b.at_ = Ba at *
  generalize l.at_ = Oa at *
  rw [gat] at HND
  try rw [gat] at C1
  try rw [gat] at C2
  clear h0 hp hl hr HLN hn hpn hn2 hdis g1 g2 hq1 ha1 hb1 t1 t2 gat eM
  try clear hnr
  try clear hnl
  have hA1 : Ah + 1 ≤ Hh := by omega
  have hB1 : Bh + 1 ≤ Hh := by omega
  clear hH
  have hd0 : decide (Hh - Oh < 0) = false := decide_eq_false (by omega)
  have hd1 : decide (0 < Hh - Oh) = true := decide_eq_true (by omega)
  have hd2 : decide (Hh < Oh) = false := decide_eq_false (by omega)
  have hd3 : decide (Oh < Hh) = true := decide_eq_true (by omega)
  generalize sumN ns p = N at *
  go_enter Try.func120, Try.ntmps120
  go_wp2_with fail
  refine hs.out.mono ?_
  rintro e w1 ⟨rfl, T1, m1⟩
  obtain ⟨g, cap, rfl, hg', hcap⟩ := T1.row.at_ HND.out
  have hlt := (List.getElem?_eq_some_iff.1 HND.out).1
  have c1 := cell_blk T1.blk 1
  simp only [List.getElem?_toArray, List.getElem?_cons_succ, List.getElem?_cons_zero] at c1
  have c3 := (nd_cells T1.row HND.out 3 _ rfl).1
  have c4 := (nd_cells T1.row HND.out 4 _ rfl).1
  have T2 := T1.kept0 ((Mod.refl [] w1).drew)
  have D1 := Lib.hid (C1.out _ T2)
  have D2 := Lib.hid (C2.out _ T2)
  have HT := Lib.hid T2
  have HM := Lib.hid m1.drew
  have TA := T1.kept0 (((Mod.refl [] w1).alloc (.cells #[.func (.func 128) #[] #[], .func (.func 129) #[] #[]] 188)).drew)
  have HMA := Lib.hid ((m1.alloc (.cells #[.func (.func 128) #[] #[], .func (.func 129) #[] #[]] 188)).drew)
  have D3 := Lib.hid (C3.out _ TA)
  have D4 := Lib.hid (C4.out _ TA)
  have D5 := Lib.hid (C5.out _ TA)
  have D6 := Lib.hid (C6.out _ TA)
  have D7 := Lib.hid (C7.out _ TA)
  have D8 := Lib.hid (C8.out _ TA)
  have hgs : g < w1.heap.size := hg'
  have hbx : ((w1.alloc (.cells #[.func (.func 128) #[] #[], .func (.func 129) #[] #[]] 188)).drew).heap[w1.heap.size]? = some (.cells #[.func (.func 128) #[] #[], .func (.func 129) #[] #[]] 188 (0, 0)) := heap_alloc_new w1 _
  have HBX := Lib.hid hbx
  clear T1 m1 T2 hs TA hbx C1 C2 C3 C4 C5 C6 C7 C8
  go_wp2_with fail
  refine wp_plan [([0, 1, 5, 11, 12, 16, 2, 13, 3, 14, 4, 15, 6, 17, 7, 18, 8, 19, 9, 20], 10, [13, 14, 15, 17, 18, 19, 20]), ([], 21, [])] [22, 23] (by kernel_rfl) (by kernel_rfl) ?_
  simp only [wpSegs, opsOf, List.map_cons, List.map_nil, opN, List.getD_cons_zero, List.getD_cons_succ]
  go_wp2_with fail
  refine ⟨by first | trivial | rfl, ?_⟩
  go_wp2_with fail
  refine D2.out.mono ?_
  rintro e w2 ⟨rfl, rfl⟩
  go_wp2_with fail
  refine ⟨?agA, ?_⟩
  case agA =>
    intro i hi hw
    simp only [List.mem_cons, List.not_mem_nil, or_false] at hi
    rcases hi with rfl | rfl | rfl | rfl | rfl | rfl | rfl
    all_goals (simp only [opN, List.getD_cons_zero, List.getD_cons_succ, slotOf]; go_simp)
  go_wp2_with fail
  refine ⟨by first | trivial | rfl, ?_⟩
  go_wp2_with fail
  refine D1.out.mono ?_
  rintro e w2 ⟨rfl, rfl⟩
  go_wp2_with fail
  refine ⟨again_nil, ?_⟩
  go_wp2_with fail
  refine ⟨by first | trivial | rfl, ?_⟩
  go_wp2_with fail
  refine D3.out.mono ?_
  rintro e w2 ⟨rfl, rfl⟩
  go_wp2_with fail
  refine D4.out.mono ?_
  rintro e w2 ⟨rfl, rfl⟩
  go_wp2_with fail
  refine D6.out.mono ?_
  rintro e w2 ⟨rfl, rfl⟩
  go_wp2_with fail
  refine D5.out.mono ?_
  rintro e w2 ⟨rfl, rfl⟩
  go_wp2_with fail
  refine D7.out.mono ?_
  rintro e w2 ⟨rfl, rfl⟩
  go_wp2_with fail
  refine D8.out.mono ?_
  rintro e w2 ⟨rfl, T2, m2⟩
  have D9 := Lib.hid (C9.out _ T2)
  have HM2 := Lib.hid (HMA.out.trans m2)
  have HB2 := Lib.hid (m2.heap HBX.out (by simp [blk, Value.ownBlock]; omega))
  clear T2 m2
  go_wp2_with fail
  refine D9.out.mono ?_
  rintro e w3 ⟨rfl, T3, m3⟩
  have D10 := Lib.hid (C10.out _ T3)
  have HM3 := Lib.hid (HM2.out.trans m3)
  have hb3 := m3.heap HB2.out (by simp [blk, Value.ownBlock]; omega)
  have x0 := cell_blk hb3 0
  have x1 := cell_blk hb3 1
  simp only [List.getElem?_toArray, List.getElem?_cons_succ, List.getElem?_cons_zero] at x0 x1
  clear T3 m3 hb3
  go_wp2_with fail
  refine D10.out.mono ?_
  rintro e w4 ⟨rfl, T4, m4⟩
  have HT4 := Lib.hid T4
  have HM4 := Lib.hid (HM3.out.trans m4)
  clear T4 m4
  go_wp2_with fail
  go_ret
  exact ⟨rfl, HT4.out, HM4.out⟩
set_option maxHeartbeats 8000000 in
theorem mended_ls {w : World} {b0 : Nat} {nv fv : Value} {ns : List Nd} {fr : List Int} {root many : Int} (h0 : TreeAt w b0 nv fv ns fr root many) {p q : Nat} {r a b : Tr} {x y : It} {h t : Int} (hp : ns[p]? = some ⟨x, (node q a y b).at_, r.at_, h, t, true⟩) (hl : rep ns (node q a y b)) (hr : rep ns r) (hn : (p :: ((node q a y b).places ++ r.places)).Nodup) (bl : (node q a y b).ht ≤ 800) (br : r.ht ≤ 800)
    (hg : 1 < (node q a y b).ht - r.ht) (hab : ¬ a.ht < b.ht) :
    Calls Try.prog 120 #[.pointer (some ⟨b0, 0, none⟩), .int .i64 p] w (TPost w b0 nv fv (mendedN ns p).1 fr root many (.int .i64 (mendedN ns p).2)) := by
  obtain ⟨hpn, hn2⟩ := List.nodup_cons.1 hn
  obtain ⟨hnl, hnr, hdis⟩ := List.nodup_append.1 hn2
  have pl : p ∉ (node q a y b).places := fun e => hpn (List.mem_append_left _ e)
  have pr : p ∉ r.places := fun e => hpn (List.mem_append_right _ e)
  have hs := Lib.hid (sum_rep h0 hp hl hr pl pr (by omega) (by omega))
  have HLN := lean_of hp hl hr pl pr
  have hL0 := ht_nonneg r
  have hA0 := ht_nonneg a
  have hB0 := ht_nonneg b
  have hH : (node q a y b).ht = 1 + max a.ht b.ht := rfl
  have g1 := HLN.side false
  have g2 := HLN.eq
  obtain ⟨hq1, ha1, hb1⟩ := HLN.l
  have t1 : sideN (sumN ns p) q true = b.at_ := by simp [sideN, nodeN_some hq1, nd]
  have t2 : sideN (sumN ns p) q false = a.at_ := by simp [sideN, nodeN_some hq1, nd]
  have gat : (node q a y b).at_ = (q : Int) := rfl
  have eM : mendedN ns p = turnN (sumN ns p) p false := by
    unfold mendedN
    simp only [g2]
    rw [if_neg (by omega), decide_eq_false (show ¬ 0 < r.ht - (node q a y b).ht by omega), g1, Bool.not_false]
    simp only [if_false, Bool.false_eq_true]
    rw [gat, show ((q : Int).toNat) = q by omega, t1, t2, htN_rep ha1, htN_rep hb1, if_neg hab]
  rw [eM]
  have C1 := Lib.hid (fun (W : World) (T : TreeAt W b0 nv fv (sumN ns p) fr root many) => height_lk T (rep_lk HLN.l))
  have C2 := Lib.hid (fun (W : World) (T : TreeAt W b0 nv fv (sumN ns p) fr root many) => height_lk T (rep_lk HLN.r))
  have C3 := Lib.hid (fun (W : World) (T : TreeAt W b0 nv fv (sumN ns p) fr root many) => side_at T HLN.nd false)
  have C4 := Lib.hid (fun (W : World) (T : TreeAt W b0 nv fv (sumN ns p) fr root many) => side_at T hq1 true)
  have C5 := Lib.hid (fun (W : World) (T : TreeAt W b0 nv fv (sumN ns p) fr root many) => side_at T hq1 false)
  have C6 := Lib.hid (fun (W : World) (T : TreeAt W b0 nv fv (sumN ns p) fr root many) => height_lk T (rep_lk hb1))
  have C7 := Lib.hid (fun (W : World) (T : TreeAt W b0 nv fv (sumN ns p) fr root many) => height_lk T (rep_lk ha1))
  rw [htN_rep HLN.l] at C1
  rw [htN_rep HLN.r] at C2
  rw [g1] at C3
  simp only [if_true, Bool.false_eq_true, if_false] at C3
  rw [gat] at C3
  rw [t1] at C4
  rw [t2] at C5
  rw [htN_rep hb1] at C6
  rw [htN_rep ha1] at C7
  simp only [places, List.mem_cons, List.mem_append, not_or, List.nodup_cons, List.nodup_append] at hnl pl
  obtain ⟨⟨qa, qb⟩, na, nb, dab⟩ := hnl
  obtain ⟨hpq, pa, pb⟩ := pl
  have oq : q ∉ r.places := fun e => hdis q (by simp [places]) q e rfl
  have C8 := Lib.hid (fun (W : World) (T : TreeAt W b0 nv fv (sumN ns p) fr root many) => toRight_at (turnR_at T HLN.nd hq1 HLN.r ha1 hb1 hpq pr pa pb oq qa qb (by omega) (by omega) (by omega)))
  have HND := Lib.hid HLN.nd
  unfold TPost at hs C8 ⊢
  try dsimp only
  unfold Tr.nd at HND
  generalize (node q a y b).ht = Hh at *
  generalize hAh : a.ht = Ah at *
  generalize hBh : b.ht = Bh at *
  generalize r.ht = Oh at *
  generalize hAa : a.at_ = Aa at *
  generalize hBa : b.at_ = Ba at *
  generalize r.at_ = Oa at *
  rw [gat] at HND
  try rw [gat] at C1
  try rw [gat] at C2
  clear h0 hp hl hr HLN hn hpn hn2 hdis g1 g2 hq1 ha1 hb1 t1 t2 gat eM
  try clear hnr
  try clear hnl
  have hA1 : Ah + 1 ≤ Hh := by omega
  have hB1 : Bh + 1 ≤ Hh := by omega
  clear hH
  have hd0 : decide (Oh - Hh < 0) = true := decide_eq_true (by omega)
  have hd1 : decide (0 < Oh - Hh) = false := decide_eq_false (by omega)
  have hd2 : decide (Hh < Oh) = false := decide_eq_false (by omega)
  have hd3 : decide (Oh < Hh) = true := decide_eq_true (by omega)
  generalize sumN ns p = N at *
  go_enter Try.func120, Try.ntmps120
  go_wp2_with fail
  refine hs.out.mono ?_
  rintro e w1 ⟨rfl, T1, m1⟩
  obtain ⟨g, cap, rfl, hg', hcap⟩ := T1.row.at_ HND.out
  have hlt := (List.getElem?_eq_some_iff.1 HND.out).1
  have c1 := cell_blk T1.blk 1
  simp only [List.getElem?_toArray, List.getElem?_cons_succ, List.getElem?_cons_zero] at c1
  have c3 := (nd_cells T1.row HND.out 3 _ rfl).1
  have c4 := (nd_cells T1.row HND.out 4 _ rfl).1
  have T2 := T1.kept0 ((Mod.refl [] w1).drew)
  have D1 := Lib.hid (C1.out _ T2)
  have D2 := Lib.hid (C2.out _ T2)
  have HT := Lib.hid T2
  have HM := Lib.hid m1.drew
  have TA := T1.kept0 (((Mod.refl [] w1).alloc (.cells #[.func (.func 128) #[] #[], .func (.func 129) #[] #[]] 188)).drew)
  have HMA := Lib.hid ((m1.alloc (.cells #[.func (.func 128) #[] #[], .func (.func 129) #[] #[]] 188)).drew)
  have D3 := Lib.hid (C3.out _ TA)
  have D4 := Lib.hid (C4.out _ TA)
  have D5 := Lib.hid (C5.out _ TA)
  have D6 := Lib.hid (C6.out _ TA)
  have D7 := Lib.hid (C7.out _ TA)
  have D8 := Lib.hid (C8.out _ TA)
  have hgs : g < w1.heap.size := hg'
  have hbx : ((w1.alloc (.cells #[.func (.func 128) #[] #[], .func (.func 129) #[] #[]] 188)).drew).heap[w1.heap.size]? = some (.cells #[.func (.func 128) #[] #[], .func (.func 129) #[] #[]] 188 (0, 0)) := heap_alloc_new w1 _
  have HBX := Lib.hid hbx
  clear T1 m1 T2 hs TA hbx C1 C2 C3 C4 C5 C6 C7 C8
  go_wp2_with fail
  refine wp_plan [([0, 1, 5, 11, 12, 16, 2, 13, 3, 14, 4, 15, 6, 17, 7, 18, 8, 19, 9, 20], 10, [13, 14, 15, 17, 18, 19, 20]), ([], 21, [])] [22, 23] (by kernel_rfl) (by kernel_rfl) ?_
  simp only [wpSegs, opsOf, List.map_cons, List.map_nil, opN, List.getD_cons_zero, List.getD_cons_succ]
  go_wp2_with fail
  refine ⟨by first | trivial | rfl, ?_⟩
  go_wp2_with fail
  refine D2.out.mono ?_
  rintro e w2 ⟨rfl, rfl⟩
  go_wp2_with fail
  refine ⟨?agA, ?_⟩
  case agA =>
    intro i hi hw
    simp only [List.mem_cons, List.not_mem_nil, or_false] at hi
    rcases hi with rfl | rfl | rfl | rfl | rfl | rfl | rfl
    all_goals (simp only [opN, List.getD_cons_zero, List.getD_cons_succ, slotOf]; go_simp)
  go_wp2_with fail
  refine ⟨by first | trivial | rfl, ?_⟩
  go_wp2_with fail
  refine D1.out.mono ?_
  rintro e w2 ⟨rfl, rfl⟩
  go_wp2_with fail
  refine ⟨again_nil, ?_⟩
  go_wp2_with fail
  refine ⟨by first | trivial | rfl, ?_⟩
  go_wp2_with fail
  refine D3.out.mono ?_
  rintro e w2 ⟨rfl, rfl⟩
  go_wp2_with fail
  refine D4.out.mono ?_
  rintro e w2 ⟨rfl, rfl⟩
  go_wp2_with fail
  refine D6.out.mono ?_
  rintro e w2 ⟨rfl, rfl⟩
  go_wp2_with fail
  refine D5.out.mono ?_
  rintro e w2 ⟨rfl, rfl⟩
  go_wp2_with fail
  refine D7.out.mono ?_
  rintro e w2 ⟨rfl, rfl⟩
  go_wp2_with fail
  refine D8.out.mono ?_
  rintro e w2 ⟨rfl, T2, m2⟩
  have HT2 := Lib.hid T2
  have HM2 := Lib.hid (HMA.out.trans m2)
  clear T2 m2
  go_wp2_with fail
  go_ret
  exact ⟨rfl, HT2.out, HM2.out⟩
set_option maxHeartbeats 8000000 in
theorem mended_ld {w : World} {b0 : Nat} {nv fv : Value} {ns : List Nd} {fr : List Int} {root many : Int} (h0 : TreeAt w b0 nv fv ns fr root many) {p q s : Nat} {r c d a : Tr} {x y z : It} {h t : Int} (hp : ns[p]? = some ⟨x, (node q a y (node s c z d)).at_, r.at_, h, t, true⟩) (hl : rep ns (node q a y (node s c z d))) (hr : rep ns r) (hn : (p :: ((node q a y (node s c z d)).places ++ r.places)).Nodup) (bl : (node q a y (node s c z d)).ht ≤ 800) (br : r.ht ≤ 800)
    (hg : 1 < (node q a y (node s c z d)).ht - r.ht) (hab : a.ht < (node s c z d).ht) :
    Calls Try.prog 120 #[.pointer (some ⟨b0, 0, none⟩), .int .i64 p] w (TPost w b0 nv fv (mendedN ns p).1 fr root many (.int .i64 (mendedN ns p).2)) := by
  obtain ⟨hpn, hn2⟩ := List.nodup_cons.1 hn
  obtain ⟨hnl, hnr, hdis⟩ := List.nodup_append.1 hn2
  have pl : p ∉ (node q a y (node s c z d)).places := fun e => hpn (List.mem_append_left _ e)
  have pr : p ∉ r.places := fun e => hpn (List.mem_append_right _ e)
  have hs := Lib.hid (sum_rep h0 hp hl hr pl pr (by omega) (by omega))
  have HLN := lean_of hp hl hr pl pr
  have hL0 := ht_nonneg r
  have hA0 := ht_nonneg a
  have hB0 := ht_nonneg (node s c z d)
  have hH : (node q a y (node s c z d)).ht = 1 + max a.ht (node s c z d).ht := rfl
  have g1 := HLN.side false
  have g2 := HLN.eq
  obtain ⟨hq1, ha1, ⟨hs1, hc1, hd1⟩⟩ := HLN.l
  have hb1 : rep (sumN ns p) (node s c z d) := ⟨hs1, hc1, hd1⟩
  have t1 : sideN (sumN ns p) q true = (node s c z d).at_ := by simp [sideN, nodeN_some hq1, nd]
  have t2 : sideN (sumN ns p) q false = a.at_ := by simp [sideN, nodeN_some hq1, nd]
  have gat : (node q a y (node s c z d)).at_ = (q : Int) := rfl
  have eM : mendedN ns p = turnN (hangN (turnN (sumN ns p) q true).1 p false (turnN (sumN ns p) q true).2) p false := by
    unfold mendedN
    simp only [g2]
    rw [if_neg (by omega), decide_eq_false (show ¬ 0 < r.ht - (node q a y (node s c z d)).ht by omega), g1, Bool.not_false]
    simp only [if_false, Bool.false_eq_true]
    rw [gat, show ((q : Int).toNat) = q by omega, t1, t2, htN_rep ha1, htN_rep hb1, if_pos hab]
  rw [eM]
  have C1 := Lib.hid (fun (W : World) (T : TreeAt W b0 nv fv (sumN ns p) fr root many) => height_lk T (rep_lk HLN.l))
  have C2 := Lib.hid (fun (W : World) (T : TreeAt W b0 nv fv (sumN ns p) fr root many) => height_lk T (rep_lk HLN.r))
  have C3 := Lib.hid (fun (W : World) (T : TreeAt W b0 nv fv (sumN ns p) fr root many) => side_at T HLN.nd false)
  have C4 := Lib.hid (fun (W : World) (T : TreeAt W b0 nv fv (sumN ns p) fr root many) => side_at T hq1 true)
  have C5 := Lib.hid (fun (W : World) (T : TreeAt W b0 nv fv (sumN ns p) fr root many) => side_at T hq1 false)
  have C6 := Lib.hid (fun (W : World) (T : TreeAt W b0 nv fv (sumN ns p) fr root many) => height_lk T (rep_lk hb1))
  have C7 := Lib.hid (fun (W : World) (T : TreeAt W b0 nv fv (sumN ns p) fr root many) => height_lk T (rep_lk ha1))
  rw [htN_rep HLN.l] at C1
  rw [htN_rep HLN.r] at C2
  rw [g1] at C3
  simp only [if_true, Bool.false_eq_true, if_false] at C3
  rw [gat] at C3
  rw [t1] at C4
  rw [t2] at C5
  rw [htN_rep hb1] at C6
  rw [htN_rep ha1] at C7
  obtain ⟨N1, N2, h2, t2', eT, eH, hp2, hp3, hs3, ho3, hc3, hd3⟩ := dblL HLN.nd HLN.l HLN.r hn
  simp only [places, List.mem_cons, List.mem_append, not_or, List.nodup_cons, List.nodup_append] at hnl pl
  obtain ⟨⟨qo, qs, qc, qd⟩, na, ⟨⟨sc, sd⟩, nc, ndd, dcd⟩, dab⟩ := hnl
  obtain ⟨hpq, po, hps, pc, pd⟩ := pl
  have so : s ∉ a.places := fun e => dab s e s (.inl rfl) rfl
  have oq : q ∉ r.places := fun e => hdis q (by simp [places]) q e rfl
  have os : s ∉ r.places := fun e => hdis s (by simp [places]) s e rfl
  have hc0 := ht_nonneg c
  have hd0 := ht_nonneg d
  have hA : (node s c z d).ht = 1 + max c.ht d.ht := rfl
  have C8 := Lib.hid (fun (W : World) (T : TreeAt W b0 nv fv (sumN ns p) fr root many) => toLeft_at (turnL_at T hq1 hs1 ha1 hc1 hd1 qs qo qc qd so sc sd (by omega) (by omega) (by omega)))
  rw [eT] at C8
  have C9 := Lib.hid (fun (W : World) (T : TreeAt W b0 nv fv N1 fr root many) => hang_at T hp2 false (s : Int))
  rw [eH] at C9
  have hbig : (node q a y c).ht = 1 + max a.ht c.ht := rfl
  have C10 := Lib.hid (fun (W : World) (T : TreeAt W b0 nv fv N2 fr root many) => toRight_at (turnR_at T hp3 hs3 ho3 hc3 hd3 hps pr (by simp [places, hpq, po, pc]) pd os (by simp [places, Ne.symm qs, so, sc]) sd (by omega) (by omega) (by omega)))
  rw [eT]
  dsimp only
  rw [eH]
  dsimp only at C8
  have HND := Lib.hid HLN.nd
  unfold TPost at hs C8 C10 ⊢
  try dsimp only
  unfold Tr.nd at HND
  generalize (node q a y (node s c z d)).ht = Hh at *
  generalize hAh : a.ht = Ah at *
  generalize hBh : (node s c z d).ht = Bh at *
  generalize r.ht = Oh at *
  generalize hAa : a.at_ = Aa at *
  generalize hBa : (node s c z d).at_ = Ba at *
  generalize r.at_ = Oa at *
  rw [gat] at HND
  try rw [gat] at C1
  try rw [gat] at C2
  clear h0 hp hl hr HLN hn hpn hn2 hdis g1 g2 hq1 ha1 hb1 t1 t2 gat eM
  try clear hnr
  try clear hnl
  have hA1 : Ah + 1 ≤ Hh := by omega
  have hB1 : Bh + 1 ≤ Hh := by omega
  clear hH
  have hd0 : decide (Oh - Hh < 0) = true := decide_eq_true (by omega)
  have hd1 : decide (0 < Oh - Hh) = false := decide_eq_false (by omega)
  have hd2 : decide (Hh < Oh) = false := decide_eq_false (by omega)
  have hd3 : decide (Oh < Hh) = true := decide_eq_true (by omega)
  generalize sumN ns p = N at *
  go_enter Try.func120, Try.ntmps120
  go_wp2_with fail
  refine hs.out.mono ?_
  rintro e w1 ⟨rfl, T1, m1⟩
  obtain ⟨g, cap, rfl, hg', hcap⟩ := T1.row.at_ HND.out
  have hlt := (List.getElem?_eq_some_iff.1 HND.out).1
  have c1 := cell_blk T1.blk 1
  simp only [List.getElem?_toArray, List.getElem?_cons_succ, List.getElem?_cons_zero] at c1
  have c3 := (nd_cells T1.row HND.out 3 _ rfl).1
  have c4 := (nd_cells T1.row HND.out 4 _ rfl).1
  have T2 := T1.kept0 ((Mod.refl [] w1).drew)
  have D1 := Lib.hid (C1.out _ T2)
  have D2 := Lib.hid (C2.out _ T2)
  have HT := Lib.hid T2
  have HM := Lib.hid m1.drew
  have TA := T1.kept0 (((Mod.refl [] w1).alloc (.cells #[.func (.func 128) #[] #[], .func (.func 129) #[] #[]] 188)).drew)
  have HMA := Lib.hid ((m1.alloc (.cells #[.func (.func 128) #[] #[], .func (.func 129) #[] #[]] 188)).drew)
  have D3 := Lib.hid (C3.out _ TA)
  have D4 := Lib.hid (C4.out _ TA)
  have D5 := Lib.hid (C5.out _ TA)
  have D6 := Lib.hid (C6.out _ TA)
  have D7 := Lib.hid (C7.out _ TA)
  have D8 := Lib.hid (C8.out _ TA)
  have hgs : g < w1.heap.size := hg'
  have hbx : ((w1.alloc (.cells #[.func (.func 128) #[] #[], .func (.func 129) #[] #[]] 188)).drew).heap[w1.heap.size]? = some (.cells #[.func (.func 128) #[] #[], .func (.func 129) #[] #[]] 188 (0, 0)) := heap_alloc_new w1 _
  have HBX := Lib.hid hbx
  clear T1 m1 T2 hs TA hbx C1 C2 C3 C4 C5 C6 C7 C8
  go_wp2_with fail
  refine wp_plan [([0, 1, 5, 11, 12, 16, 2, 13, 3, 14, 4, 15, 6, 17, 7, 18, 8, 19, 9, 20], 10, [13, 14, 15, 17, 18, 19, 20]), ([], 21, [])] [22, 23] (by kernel_rfl) (by kernel_rfl) ?_
  simp only [wpSegs, opsOf, List.map_cons, List.map_nil, opN, List.getD_cons_zero, List.getD_cons_succ]
  go_wp2_with fail
  refine ⟨by first | trivial | rfl, ?_⟩
  go_wp2_with fail
  refine D2.out.mono ?_
  rintro e w2 ⟨rfl, rfl⟩
  go_wp2_with fail
  refine ⟨?agA, ?_⟩
  case agA =>
    intro i hi hw
    simp only [List.mem_cons, List.not_mem_nil, or_false] at hi
    rcases hi with rfl | rfl | rfl | rfl | rfl | rfl | rfl
    all_goals (simp only [opN, List.getD_cons_zero, List.getD_cons_succ, slotOf]; go_simp)
  go_wp2_with fail
  refine ⟨by first | trivial | rfl, ?_⟩
  go_wp2_with fail
  refine D1.out.mono ?_
  rintro e w2 ⟨rfl, rfl⟩
  go_wp2_with fail
  refine ⟨again_nil, ?_⟩
  go_wp2_with fail
  refine ⟨by first | trivial | rfl, ?_⟩
  go_wp2_with fail
  refine D3.out.mono ?_
  rintro e w2 ⟨rfl, rfl⟩
  go_wp2_with fail
  refine D4.out.mono ?_
  rintro e w2 ⟨rfl, rfl⟩
  go_wp2_with fail
  refine D6.out.mono ?_
  rintro e w2 ⟨rfl, rfl⟩
  go_wp2_with fail
  refine D5.out.mono ?_
  rintro e w2 ⟨rfl, rfl⟩
  go_wp2_with fail
  refine D7.out.mono ?_
  rintro e w2 ⟨rfl, rfl⟩
  go_wp2_with fail
  refine D8.out.mono ?_
  rintro e w2 ⟨rfl, T2, m2⟩
  have D9 := Lib.hid (C9.out _ T2)
  have HM2 := Lib.hid (HMA.out.trans m2)
  have HB2 := Lib.hid (m2.heap HBX.out (by simp [blk, Value.ownBlock]; omega))
  clear T2 m2
  go_wp2_with fail
  refine D9.out.mono ?_
  rintro e w3 ⟨rfl, T3, m3⟩
  have D10 := Lib.hid (C10.out _ T3)
  have HM3 := Lib.hid (HM2.out.trans m3)
  have hb3 := m3.heap HB2.out (by simp [blk, Value.ownBlock]; omega)
  have x0 := cell_blk hb3 0
  have x1 := cell_blk hb3 1
  simp only [List.getElem?_toArray, List.getElem?_cons_succ, List.getElem?_cons_zero] at x0 x1
  clear T3 m3 hb3
  go_wp2_with fail
  refine D10.out.mono ?_
  rintro e w4 ⟨rfl, T4, m4⟩
  have HT4 := Lib.hid T4
  have HM4 := Lib.hid (HM3.out.trans m4)
  clear T4 m4
  go_wp2_with fail
  go_ret
  exact ⟨rfl, HT4.out, HM4.out⟩
end Go.Proofs.Ytngglpekdjhbdaa

/- The journal's superblocks. -/
import Derived.Test.YtnjfgbbdfdoccaaJnD
namespace Go.Proofs.Ytnjfgbbdfdoccaa
open Go.RowKit Go.ChangeMaps
set_option linter.unusedSimpArgs false
set_option linter.unusedVariables false
set_option maxRecDepth 20000

/-- '((with_reducible refine xCopyAt H rfl rfl ?_ ?_ ?_ ?_); exact rfl; exact rfl; exact rfl)' -/
theorem xCopyAt {P : Program} {ops : Array Oper} {rest : List Oper} {o : Oper} {a : Act} {w w' : World} {Q : Exit → Act → World → Prop} {v : Value} {s x : Operand} {ts : Array TypeId} {ty : TypeId} {V X : Value} (hrun : (Builtin.copy_ ts ty #[V, X]).run P w = .ok v w') (ho : o.op = .call { callee := .builtin .copy, args := #[s, x], argTypes := ts }) (hty : o.type = ty) (hs : a.eval s = V) (hx : a.eval x = X)
    (hg : Region.wanted o (yielded ops a.tmps) = true) (h : wpList P ops Q rest (a.put o.dst v) w') : wpList P ops Q (o :: rest) a w := by
  subst hs; subst hx; subst hty
  exact wpList_val hg (by unfold execOp; simp only [ho, resolve, invoke, builtin, Sem.run_bind, Sem.run_pure, Result.andThen_ok, List.map_toArray, List.map_cons, List.map_nil, hrun]) h
theorem Mod.setRow (w : World) (g : Nat) (cs : Array Value) : Mod [g] w (w.setRow g cs) :=
  ⟨rfl, rfl, rfl, by simp [World.setRow], fun k hk hn => setRow_other w g k cs (by simpa using hn)⟩
theorem own8_copy {E : TypeId} {w : World} {base g c : Nat} {L src : List Int} {x : Value} (h : OwnR enc8 1 E w base (.slice (some ⟨g, 0, none⟩) L.length c) L) (hx : RowAt enc8 w x src) (o : Nat) (hfit : o + src.length ≤ L.length) (hp : 0 < src.length) (ty : TypeId) (n cc : Nat) (hn : n = L.length - o) :
    ∃ w', (Builtin.copy_ #[33, 33] ty #[.slice (some ⟨g, o, none⟩) n cc, x]).run Try.prog w = .ok (.int .i64 src.length) w' ∧ OwnR enc8 1 E w' base (.slice (some ⟨g, 0, none⟩) L.length c) (L.take o ++ src ++ L.drop (o + src.length)) ∧ Mod [g] w w' := by
  subst hn
  obtain ⟨h1, h2⟩ := h
  rcases h2 with ⟨h2, _⟩ | ⟨g', cap, cur, e, h3, h4, h5, h6, h7, h8⟩
  · cases h2
  cases e
  rw [flat8] at h8
  simp only [Nat.mul_one] at h7 h8
  have hcur : cur.toList = bv L ++ cur.toList.drop L.length := by
    conv => lhs; rw [← List.take_append_drop L.length cur.toList]
    rw [h8]
  cases hx with
  | nil => simp at hp
  | at_ b o' cap' _ hc hr =>
    rw [flat8] at hr
    have hcs : (bv src).length = Nat.min src.length (L.length - o) := by
      rw [bv_length]
      show src.length = min src.length (L.length - o)
      omega
    have hsz : cur.size = c := h7
    have run := run_copy_row (P := Try.prog) w 33 33 ty 5 g o (L.length - o) cc ⟨b, o', none⟩ src.length cap' cur E (bv src) Try.underlying33 (by kernel_rfl) h4 hcs (fun j v hj => by
      have := hr j v hj
      rw [Addr.add_mid]
      exact this) (by rw [bv_length, hsz]; omega) (by intro v hv; simp [bv] at hv; obtain ⟨y, _, rfl⟩ := hv; rfl)
    rw [bv_length] at run
    have hlen : (L.take o ++ src ++ L.drop (o + src.length)).length = L.length := by simp; omega
    refine ⟨_, run, ⟨?_, .inr ⟨g, c, _, by rw [hlen], h3, setRow_heap w g cur _ E _ h4, by rw [hlen]; omega, h6, ?_, ?_⟩⟩, Mod.setRow _ _ _⟩
    · rw [flat8]
      simp [bv]
    · have := congrArg List.length hcur
      simp only [Array.length_toList, List.length_append, bv_length, List.length_drop] at this
      simp only [List.size_toArray, List.length_append, List.length_take, List.length_drop, Array.length_toList, bv_length, Nat.mul_one]
      omega
    · rw [flat8, hlen]
      simp only [Nat.mul_one]
      have e1 : cur.toList.take o = (bv L).take o := by
        rw [hcur, List.take_append_of_le_length (by rw [bv_length]; omega)]
      have e2 : cur.toList.drop (o + src.length) = (bv L).drop (o + src.length) ++ cur.toList.drop L.length := by
        conv => lhs; rw [hcur]
        rw [List.drop_append_of_le_length (by rw [bv_length]; omega)]
      rw [e1, e2]
      simp only [bv, List.map_append, List.map_take, List.map_drop, ← List.append_assoc]
      rw [List.take_append_of_le_length (by simp; omega), List.take_of_length_le (by simp; omega)]
/-- an epoch's superblock -/
def superH (ep : Int) : List Int := 165 :: (fourP ep ++ List.replicate 55 0)
def superP (ep : Int) : List Int := superH ep ++ fourP (sumP (superH ep))
theorem superP_len (ep : Int) : (superP ep).length = 64 := rfl
theorem superH_isB (ep : Int) : IsB (superH ep) := fun x hx => by
  unfold superH at hx
  rcases List.mem_cons.1 hx with rfl | hx
  · omega
  · exact (IsB.append (fourP_isB ep) (isB_zeros 55)) x hx
theorem superP_isB (ep : Int) : IsB (superP ep) := IsB.append (superH_isB ep) (fourP_isB _)
set_option maxHeartbeats 1000000 in
theorem jSuper_at (ep : Int) (h0 : 0 ≤ ep) (h1 : ep ≤ 4294967296) (w : World) :
    Calls Try.prog 31 #[.int .i64 ep] w fun e w' => ∃ v, e = .returned v ∧ OwnR enc8 1 61 w' w.heap.size v (superP ep) ∧ Mod [] w w' := by
  have CN := Lib.hid (jNoughts_at w)
  go_enter Try.func31, Try.ntmps31
  go_wp2_with fail
  refine CN.out.mono ?_
  rintro e w1 ⟨g, rfl, ho, m1⟩
  have c0 := ho.cell enc8_len (i := 0) (by decide) (j := 0) (by omega) (u := .int .u8 0) rfl
  have hs0 := OwnR.set enc8_len (l := zeros64) ho (i := 0) (by decide) (j := 0) (by omega) (u := .int .u8 165) (y := 165) rfl
  simp only [Nat.zero_mul, Nat.zero_add] at c0 hs0
  obtain ⟨c1, c2⟩ := c0
  have hgb : w.heap.size ≤ g := (World.ownsRow.lt ho g rfl).1
  have HL := Lib.hid (show OwnR enc8 1 61 (w1.setCell ⟨g, 0, none⟩ (.int .u8 165)) w.heap.size (.slice (some ⟨g, 0, none⟩) 64 64) (165 :: List.replicate 63 0) from hs0)
  have HM := Lib.hid (m1.setCellNew (p := ⟨g, 0, none⟩) hgb (.int .u8 165))
  obtain ⟨w2, hw2⟩ : ∃ w2, w2 = w1.setCell ⟨g, 0, none⟩ (.int .u8 165) := ⟨_, rfl⟩
  rw [← hw2] at HL HM
  have HW := Lib.hid hw2
  clear CN ho hs0 m1 hw2
  go_wp2_with fail
  rw [← HW.out]
  clear HW c1 c2
  have md : Mod [] w2 w2.drew := (Mod.refl [] w2).drew
  have CF := Lib.hid (jFour_at ep h0 (by omega) w2.drew)
  have HL2 := Lib.hid (HL.out.kept0 md)
  have HM2 := Lib.hid (HM.out.trans md)
  clear md
  refine wp_plan [([0, 2, 1], 3, [1]), ([], 4, [])] [] (by kernel_rfl) (by kernel_rfl) ?_
  simp only [wpSegs, opsOf, List.map_cons, List.map_nil, opN, List.getD_cons_zero, List.getD_cons_succ]
  go_wp2_with fail
  refine ⟨by first | trivial | rfl, ?_⟩
  go_wp2_with fail
  refine CF.out.mono ?_
  rintro e w3 ⟨fv, rfl, of3, m3⟩
  obtain ⟨w4, rc, o4, m4⟩ := own8_copy (L := 165 :: List.replicate 63 0) (HL2.out.kept0 m3) of3.row 1 (by show 1 + 4 ≤ 64; omega) (by show 0 < 4; omega) 3 63 63 rfl
  have HL4 := Lib.hid (show OwnR enc8 1 61 w4 w.heap.size (.slice (some ⟨g, 0, none⟩) 64 64) (superH ep ++ List.replicate 4 0) from o4)
  have HM4 := Lib.hid (Mod.into' (HM2.out.trans m3) m4 (fun k hk => .inl (by simp at hk; omega)))
  obtain ⟨fa, fc, rfl⟩ := of3.lens
  have RC := Lib.hid rc
  clear CF of3 m3 rc o4 m4 HL HM HL2 HM2
  go_wp2_with fail
  refine ⟨?ag1, ?_⟩
  case ag1 =>
    intro i hi hw
    simp only [List.mem_cons, List.not_mem_nil, or_false] at hi
    subst hi
    all_goals (simp only [opN, List.getD_cons_zero, List.getD_cons_succ, slotOf]; go_simp)
  go_wp2_with fail
  refine ⟨by first | trivial | rfl, ?_⟩
  go_wp2_with ((with_reducible refine xCopyAt RC.out rfl rfl ?_ ?_ ?_ ?_); exact rfl; exact rfl; exact rfl)
  refine ⟨again_nil, ?_⟩
  go_wp2_with fail
  refine ⟨by first | trivial | rfl, ?_⟩
  go_wp2_with fail
  have md : Mod [] w4 w4.drew := (Mod.refl [] w4).drew
  have hr := RowAt.take enc8_len (l := superH ep ++ List.replicate 4 0) (HL4.out.kept0 md).row 60 (by show 60 ≤ 64; omega)
  have CS := Lib.hid (jSum_at (l := superH ep) hr (by show 60 ≤ _; omega) (superH_isB ep))
  have hsum := sumP_in (superH ep)
  have HX := Lib.hid (show sumP (superH ep) = sumP (superH ep) from rfl)
  generalize hsm : sumP (superH ep) = sm at CS hsum
  have HSM := Lib.hid hsm
  obtain ⟨hm0, hm1⟩ := hsum
  have HL5 := Lib.hid (HL4.out.kept0 md)
  have HM5 := Lib.hid (HM4.out.trans md)
  clear md hr hsm
  refine wp_plan [([0, 2, 1, 3], 4, [1]), ([], 5, [1]), ([], 6, [])] [] (by kernel_rfl) (by kernel_rfl) ?_
  simp only [wpSegs, opsOf, List.map_cons, List.map_nil, opN, List.getD_cons_zero, List.getD_cons_succ]
  go_wp2_with fail
  refine CS.out.mono ?_
  rintro e w5 ⟨rfl, rfl⟩
  have CF := Lib.hid (jFour_at sm hm0 (by omega) w4.drew)
  go_wp2_with fail
  refine ⟨?ag2, ?_⟩
  case ag2 =>
    intro i hi hw
    simp only [List.mem_cons, List.not_mem_nil, or_false] at hi
    subst hi
    all_goals (simp only [opN, List.getD_cons_zero, List.getD_cons_succ, slotOf]; go_simp)
  go_wp2_with fail
  refine ⟨by first | trivial | rfl, ?_⟩
  go_wp2_with fail
  refine CF.out.mono ?_
  rintro e w6 ⟨fv, rfl, of3, m3⟩
  obtain ⟨w7, rc, o4, m4⟩ := own8_copy (L := superH ep ++ List.replicate 4 0) (HL5.out.kept0 m3) of3.row 60 (by show 60 + 4 ≤ 64; omega) (by show 0 < 4; omega) 3 4 4 rfl
  have HL7 := Lib.hid (show OwnR enc8 1 61 w7 w.heap.size (.slice (some ⟨g, 0, none⟩) 64 64) (superP ep) from by
    have e : superP ep = superH ep ++ fourP sm := by unfold superP; rw [HSM.out]
    rw [e]
    exact o4)
  have HM7 := Lib.hid (Mod.into' (HM5.out.trans m3) m4 (fun k hk => .inl (by simp at hk; omega)))
  obtain ⟨fa, fc, rfl⟩ := of3.lens
  have RC := Lib.hid rc
  clear CF of3 m3 rc o4 m4
  go_wp2_with fail
  refine ⟨?ag3, ?_⟩
  case ag3 =>
    intro i hi hw
    simp only [List.mem_cons, List.not_mem_nil, or_false] at hi
    subst hi
    all_goals (simp only [opN, List.getD_cons_zero, List.getD_cons_succ, slotOf]; go_simp)
  go_wp2_with fail
  refine ⟨by first | trivial | rfl, ?_⟩
  go_wp2_with ((with_reducible refine xCopyAt RC.out rfl rfl ?_ ?_ ?_ ?_); exact rfl; exact rfl; exact rfl)
  refine ⟨again_nil, ?_⟩
  go_wp2_with fail
  refine ⟨by first | trivial | rfl, ?_⟩
  go_wp2_with fail
  go_ret
  exact ⟨_, rfl, HL7.out, HM7.out⟩
end Go.Proofs.Ytnjfgbbdfdoccaa

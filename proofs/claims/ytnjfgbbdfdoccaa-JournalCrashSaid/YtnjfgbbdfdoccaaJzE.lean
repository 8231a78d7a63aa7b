/- JournalCrash: how it begins; what is found behind a crash. -/
import Derived.Test.YtnjfgbbdfdoccaaJnU
import Derived.Test.YtnjfgbbdfdoccaaJzD
import Derived.Test.YtnjfgbbdfdoccaaJnK
import Derived.Test.YtnjfgbbdfdoccaaJnS
import Derived.Deep.LoopGhost
import Derived.Test.YtnjfgbbdfdoccaaJzA
import Derived.Test.YtnjfgbbdfdoccaaJzC
import Derived.Test.YtnjfgbbdfdoccaaJnM
import Derived.Test.YtnjfgbbdfdoccaaJnY
namespace Go.Proofs.Ytnjfgbbdfdoccaa
open Go.RowKit Go.ChangeMaps
set_option linter.unusedSimpArgs false
set_option linter.unusedVariables false
set_option maxRecDepth 20000

theorem numP_four (x : Int) (h : 0 ≤ x ∧ x ≤ 4294967295) (r : List Int) : numP (fourP x ++ r) = x := by
  unfold numP fourP
  simp
  omega
theorem secsP_cons (D : Dk) (at_ : Int) (n : Nat) : secsP D at_ (n + 1) = D.sec at_ ++ secsP D (at_ + 1) n := by
  unfold secsP
  rw [List.range_succ_eq_map, List.map_cons, List.flatten_cons, List.map_map]
  congr 2
  · simp
  · apply List.map_congr_left
    intro i _
    simp only [Function.comp]
    congr 1
    omega
theorem secsP_congr {D E : Dk} : ∀ (n : Nat) (at_ : Int), (∀ k, at_ ≤ k → k < at_ + n → D.sec k = E.sec k) → secsP D at_ n = secsP E at_ n
  | 0, at_, _ => rfl
  | n + 1, at_, h => by
    rw [secsP_cons, secsP_cons, h at_ (Int.le_refl _) (by omega), secsP_congr n (at_ + 1) (fun k h0 h1 => h k (by omega) (by omega))]
theorem next_two {J : Jk} {D : Dk} (hm : 0 < (J.next D).2) : (J.next D).2 = (numP ((D.sec J.at_).drop 10) + 81) / 64 := by
  unfold Jk.next at hm ⊢
  split at hm
  · exact absurd hm (by decide)
  · rename_i c1
    rw [if_neg c1]
    split at hm
    · exact absurd hm (by decide)
    · rename_i c2
      rw [if_neg c2]
      dsimp only at hm ⊢
      split at hm
      · rename_i c3
        rw [if_pos c3]
        split at hm
        · rename_i c4; rw [if_pos c4]
        · rename_i c4
          rw [if_neg c4]
          split at hm
          · rename_i c5
            rw [if_pos c5]
            split at hm
            · rfl
            · exact absurd hm (by simp)
          · exact absurd hm (by simp)
      · exact absurd hm (by simp)
theorem next_congr {J : Jk} {D E : Dk} (hn : D.n = E.n) (hm : 0 < (J.next D).2) (hs : ∀ k, J.at_ ≤ k → k < J.at_ + (J.next D).2 → D.sec k = E.sec k) : J.next E = J.next D := by
  have h2 := next_two hm
  have ha : D.sec J.at_ = E.sec J.at_ := hs J.at_ (Int.le_refl _) (by omega)
  have hb : secsP D J.at_ ((numP ((D.sec J.at_).drop 10) + 81) / 64).toNat = secsP E J.at_ ((numP ((D.sec J.at_).drop 10) + 81) / 64).toNat :=
    secsP_congr _ _ (fun k h0 h1 => hs k h0 (by omega))
  have hl : leftP J E = leftP J D := by unfold leftP; rw [hn]
  unfold Jk.next
  rw [hl, ← ha, ← hn]
  simp only [hb]
/-- frames are taken in, one behind the other -/
inductive Reads (D : Dk) (ep : Int) : Int → List (List Int) → Int → List (List Int) → Prop
  | refl (a : Int) (l : List (List Int)) : Reads D ep a l a l
  | step (a : Int) (l L : List (List Int)) (m a' : Int) (l' : List (List Int)) : (⟨ep, a, l, false⟩ : Jk).next D = (L, m) → 0 < m → Reads D ep (a + m) (l ++ L) a' l' → Reads D ep a l a' l'
theorem Reads.le {D : Dk} {ep a a' : Int} {l l' : List (List Int)} (h : Reads D ep a l a' l') : a ≤ a' := by
  induction h with
  | refl => exact Int.le_refl _
  | step a l L m a' l' h0 h1 h2 ih => omega
theorem Reads.snoc {D : Dk} {ep a a' : Int} {l l' : List (List Int)} (h : Reads D ep a l a' l') {L : List (List Int)} {m : Int} (hn : (⟨ep, a', l', false⟩ : Jk).next D = (L, m)) (hm : 0 < m) : Reads D ep a l (a' + m) (l' ++ L) := by
  induction h with
  | refl a l => exact .step a l L m _ _ hn hm (.refl _ _)
  | step a l L0 m0 a' l' h0 h1 h2 ih => exact .step a l L0 m0 _ _ h0 h1 (ih hn)
theorem Reads.congr {D E : Dk} {ep a a' : Int} {l l' : List (List Int)} (h : Reads D ep a l a' l') (hn : D.n = E.n) (hs : ∀ k, a ≤ k → k < a' → D.sec k = E.sec k) : Reads E ep a l a' l' := by
  induction h with
  | refl a l => exact .refl a l
  | step a l L m a' l' h0 h1 h2 ih =>
    have hle := h2.le
    have := next_congr (J := ⟨ep, a, l, false⟩) (D := D) (E := E) hn (by rw [h0]; exact h1) (fun k k0 k1 => hs k k0 (by rw [h0] at k1; dsimp only at k1; omega))
    exact .step a l L m a' l' (by rw [this, h0]) h1 (ih (fun k k0 k1 => hs k (by omega) k1))
theorem open_loads {D : Dk} {ep a a' : Int} {l l' : List (List Int)} (h : Reads D ep a l a' l') (hB : ∀ k, IsB (D.sec k)) (ht : (⟨ep, a', l', false⟩ : Jk).next D = ([], 0)) : ∀ (f : Nat) (d : Bool), Loads ⟨ep, a, l, d⟩ D f → (openJ D).l = l' := by
  induction h with
  | refl a l =>
    intro f d hl
    have e : (⟨ep, a, l, d⟩ : Jk).next D = ([], 0) := ht
    have := hl.done hB (by rw [e]; decide)
    rw [← this]
    show l ++ ((⟨ep, a, l, d⟩ : Jk).next D).1 = l
    rw [e]; simp
  | step a l L m a' l' h0 h1 h2 ih =>
    intro f d hl
    have e : (⟨ep, a, l, d⟩ : Jk).next D = (L, m) := h0
    obtain ⟨g, rfl⟩ : ∃ g, f = g + 1 := by
      cases f with
      | zero =>
        have q1 := hl.fuel
        have q2 := hl.hi
        omega
      | succ g => exact ⟨g, rfl⟩
    have hs := hl.step hB (by rw [e]; exact h1)
    have ht2 : (⟨ep, a, l, d⟩ : Jk).take D = ⟨ep, a + m, l ++ L, d⟩ := by unfold Jk.take; rw [e]
    rw [ht2] at hs
    exact ih ht g d hs
/-- what is opened -/
theorem open_reads {D : Dk} {ep a' : Int} {l' : List (List Int)} (hn : 8 ≤ D.n ∧ D.n ≤ 65536) (hw : 0 ≤ D.written ∧ D.written ≤ 1152921504606846976) (hB : ∀ k, IsB (D.sec k)) (he : epsP D = ep) (h : Reads D ep (beginP D.n ep) [] a' l') (ht : (⟨ep, a', l', false⟩ : Jk).next D = ([], 0)) : (openJ D).l = l' := by
  have hl := Loads.start hn hw hB
  unfold openJ0 at hl
  rw [he] at hl
  exact open_loads h hB ht _ _ hl
theorem superP_num (ep : Int) (h : 0 ≤ ep ∧ ep ≤ 4294967295) : numP ((superP ep).drop 1) = ep := by
  have : (superP ep).drop 1 = fourP ep ++ (List.replicate 55 0 ++ fourP (sumP (superH ep))) := by
    unfold superP superH
    simp
  rw [this]
  exact numP_four ep h _
theorem epoch_super (ep : Int) (h : 1 ≤ ep ∧ ep ≤ 4294967295) : epochOfP (superP ep) (ep % 2) = ep := by
  unfold epochOfP
  rw [superP_num ep (by omega), if_neg (by
    intro hh
    rcases hh with hh | hh | hh
    · omega
    · exact hh rfl
    · exact hh rfl)]
theorem epoch_zero (k : Int) : epochOfP zeros64 k = 0 := by
  unfold epochOfP
  rw [if_pos (.inl (by decide))]
theorem eps_of {D : Dk} {ep : Int} (h : 1 ≤ ep ∧ ep ≤ 4294967295) (h1 : D.sec (ep % 2) = superP ep) (h2 : epochOfP (D.sec ((ep + 1) % 2)) ((ep + 1) % 2) < ep) : epsP D = ep := by
  have e1 := epoch_super ep h
  rw [← h1] at e1
  unfold epsP
  have hc : ep % 2 = 0 ∨ ep % 2 = 1 := by omega
  rcases hc with hc | hc
  · rw [hc] at e1
    rw [show (ep + 1) % 2 = 1 from by omega] at h2
    omega
  · rw [hc] at e1
    rw [show (ep + 1) % 2 = 0 from by omega] at h2
    omega
theorem frame_form (kind ep n : Int) (own : List Int) : ∃ r, frameP kind ep n own = 199 :: kind :: (fourP ep ++ (fourP n ++ (fourP own.length ++ (own ++ r)))) := by
  refine ⟨fourP (sumP (frameB kind ep n own)) ++ List.replicate (manyP own.length * 64 - (own.length + 18)) 0, ?_⟩
  unfold frameP frameC frameB
  simp
theorem frame_first {D : Dk} {at_ kind ep n : Int} {own : List Int} (h64 : ∀ k, (D.sec k).length = 64) (h : secsP D at_ (manyP own.length) = frameP kind ep n own) (hn : 0 ≤ n ∧ n ≤ 4294967295) (ho : own.length ≤ 4294967295) :
    (D.sec at_).getD 1 0 = kind ∧ numP ((D.sec at_).drop 6) = n ∧ numP ((D.sec at_).drop 10) = own.length := by
  obtain ⟨M, hM⟩ : ∃ M, manyP own.length = M + 1 := ⟨manyP own.length - 1, by unfold manyP; omega⟩
  obtain ⟨r, hr⟩ := frame_form kind ep n own
  rw [hM, secsP_cons] at h
  have hs : D.sec at_ = (frameP kind ep n own).take 64 := by
    rw [← h, ← h64 at_, List.take_left]
  rw [hs, hr]
  refine ⟨rfl, ?_, ?_⟩
  · have : ((199 :: kind :: (fourP ep ++ (fourP n ++ (fourP own.length ++ (own ++ r))))).take 64).drop 6 = fourP n ++ (fourP own.length ++ (own ++ r)).take 54 := by
      simp [fourP]
    rw [this]
    exact numP_four n hn _
  · have : ((199 :: kind :: (fourP ep ++ (fourP n ++ (fourP own.length ++ (own ++ r))))).take 64).drop 10 = fourP own.length ++ (own ++ r).take 50 := by
      simp [fourP]
    rw [this]
    exact numP_four _ (by omega) _
theorem frame_own (kind ep n : Int) (own : List Int) : ((frameP kind ep n own).drop 14).take own.length = own := by
  obtain ⟨r, hr⟩ := frame_form kind ep n own
  rw [hr]
  have : (199 :: kind :: (fourP ep ++ (fourP n ++ (fourP own.length ++ (own ++ r))))).drop 14 = own ++ r := by
    simp [fourP]
  rw [this, List.take_left]
theorem many_int (k : Nat) : (((k : Int) + 81) / 64) = ((manyP k : Nat) : Int) := by unfold manyP; omega
/-- a record's frame is taken in -/
theorem next_rec {D : Dk} {ep at_ : Int} {l : List (List Int)} {b : List Int} (h64 : ∀ k, (D.sec k).length = 64) (hb : 1 ≤ b.length ∧ b.length ≤ 65536) (hl : l.length ≤ 1048576) (hs : secsP D at_ (manyP b.length) = frameP 0 ep (l.length + 1) b) (hf : (manyP b.length : Int) + 1 ≤ leftP ⟨ep, at_, l, false⟩ D) :
    (⟨ep, at_, l, false⟩ : Jk).next D = ([b], (manyP b.length : Int)) := by
  obtain ⟨f1, f2, f3⟩ := frame_first h64 hs (by omega) (by omega)
  have hm1 : 1 ≤ manyP b.length := by unfold manyP; omega
  unfold Jk.next
  dsimp only
  rw [f1, f2, f3, many_int, if_neg (by omega), if_neg (by omega), Int.toNat_natCast, Int.toNat_natCast, hs, frame_own, if_pos rfl, if_pos ⟨rfl, by omega, by omega, rfl⟩]
/-- a copy's frame is taken in -/
theorem next_copy {D : Dk} {ep at_ : Int} {L : List (List Int)} (h64 : ∀ k, (D.sec k).length = 64) (ha : at_ = beginP D.n ep) (hl : L.length ≤ 1048576) (ho : (ckOwn L).length ≤ 4294967295) (hs : secsP D at_ (manyP (ckOwn L).length) = frameP 1 ep L.length (ckOwn L)) (hp : partsP (ckOwn L) L.length = some L) (hf : (manyP (ckOwn L).length : Int) + 1 ≤ leftP ⟨ep, at_, [], false⟩ D) :
    (⟨ep, at_, [], false⟩ : Jk).next D = (L, (manyP (ckOwn L).length : Int)) := by
  obtain ⟨f1, f2, f3⟩ := frame_first h64 hs (by omega) ho
  have hm1 : 1 ≤ manyP (ckOwn L).length := by unfold manyP; omega
  unfold Jk.next
  dsimp only
  rw [f1, f2, f3, many_int, if_neg (by omega), if_neg (by omega), Int.toNat_natCast, Int.toNat_natCast, hs, frame_own, if_pos rfl, if_neg (fun h => absurd h.1 (by decide)), if_pos ⟨rfl, ha⟩, hp]
/-- noughts are no frame -/
theorem next_zero {D : Dk} {ep at_ : Int} {l : List (List Int)} {d : Bool} (h : D.sec at_ = zeros64) : (⟨ep, at_, l, d⟩ : Jk).next D = ([], 0) := by
  unfold Jk.next
  dsimp only
  rw [h]
  have e1 : numP (zeros64.drop 10) = 0 := by decide
  rw [e1]
  split
  · rfl
  · split
    · rfl
    · rw [show ((0 : Int) + 81) / 64 = 1 from rfl, show (1 : Int).toNat = 1 from rfl, secsP_one, h]
      rw [if_neg]
      intro he
      have := congrArg (fun x => x.getD 0 0) he
      obtain ⟨r, hr⟩ := frame_form (zeros64.getD 1 0) ep (numP (zeros64.drop 6)) ((zeros64.drop 14).take (0 : Int).toNat)
      rw [hr] at this
      exact absurd (show (0 : Int) = 199 from this) (by decide)
theorem parts_ck : ∀ (L : List (List Int)) (f : Nat), (∀ b ∈ L, 1 ≤ b.length ∧ b.length ≤ 65536) → (ckOwn L).length ≤ f → partsF f (ckOwn L) = some (L, true)
  | [], 0, _, _ => rfl
  | [], f + 1, _, _ => rfl
  | b :: L, f, hb, hf => by
    have h1 := hb b List.mem_cons_self
    have e : ckOwn (b :: L) = fourP b.length ++ (b ++ ckOwn L) := by simp [ckOwn]
    have el : (ckOwn (b :: L)).length = 4 + (b.length + (ckOwn L).length) := by rw [e]; simp [fourP_len]
    obtain ⟨g, rfl⟩ : ∃ g, f = g + 1 := ⟨f - 1, by omega⟩
    unfold partsF
    rw [if_pos (by omega), el, e, numP_four _ (by omega), if_neg (by omega), Int.toNat_natCast]
    have d4 : (fourP b.length ++ (b ++ ckOwn L)).drop 4 = b ++ ckOwn L := rfl
    rw [d4, List.drop_left, List.take_left, parts_ck L g (fun x hx => hb x (List.mem_cons_of_mem _ hx)) (by omega)]
    rfl
theorem partsP_ck {L : List (List Int)} (hb : ∀ b ∈ L, 1 ≤ b.length ∧ b.length ≤ 65536) (h0 : 0 < L.length) : partsP (ckOwn L) L.length = some L := by
  unfold partsP
  rw [parts_ck L _ hb (Nat.le_refl _)]
  exact if_pos ⟨rfl, rfl, by omega⟩
end Go.Proofs.Ytnjfgbbdfdoccaa
namespace Go.Proofs.Ytnjfgbbdfdoccaa
open Go.RowKit Go.ChangeMaps
set_option linter.unusedSimpArgs false
set_option linter.unusedVariables false
set_option maxRecDepth 20000

theorem lay_sec (D : Dk) (k : Int) (l : List Int) (x : Int) : (D.lay k l).sec x = if x = k then l else D.sec x := by
  unfold Dk.sec Dk.lay
  dsimp only
  split
  · rfl
  · rfl
/-- writes that are done -/
def Dk.puts (D : Dk) (p : List (Int × List Int)) : Dk := p.foldl (fun D x => D.lay x.1 x.2) D
theorem puts_snoc (D : Dk) (p : List (Int × List Int)) (x : Int × List Int) : D.puts (p ++ [x]) = (D.puts p).lay x.1 x.2 := by
  unfold Dk.puts; rw [List.foldl_append]; rfl
theorem puts_n (p : List (Int × List Int)) : ∀ D : Dk, (D.puts p).n = D.n := by
  induction p with
  | nil => intro D; rfl
  | cons x p ih => intro D; exact (ih (D.lay x.1 x.2)).trans rfl
theorem puts_out (p : List (Int × List Int)) : ∀ (D : Dk) (k : Int), (∀ x ∈ p, x.1 ≠ k) → (D.puts p).sec k = D.sec k := by
  induction p with
  | nil => intro D k _; rfl
  | cons x p ih =>
    intro D k h
    have := ih (D.lay x.1 x.2) k (fun y hy => h y (List.mem_cons_of_mem _ hy))
    rw [show D.puts (x :: p) = (D.lay x.1 x.2).puts p from rfl, this, lay_sec, if_neg (fun e => h x List.mem_cons_self e.symm)]
/-- what writes do on a disk on which a crash is set -/
theorem live_writes : ∀ (p : List (Int × List Int)) {J : Jk} {D : Dk}, J.dead = false → D.down = false → D.set = true → 0 ≤ D.after → (∀ x ∈ p, 0 ≤ x.1 ∧ x.1 < D.n ∧ x.2.length = 64) →
    ((p.length : Int) ≤ D.after ∧ (J.writes D p).1 = 0 ∧ (J.writes D p).2.1 = J ∧ (J.writes D p).2.2.down = false ∧ (J.writes D p).2.2.set = true ∧ (J.writes D p).2.2.after = D.after - p.length ∧ (J.writes D p).2.2.n = D.n ∧ (J.writes D p).2.2.torn = D.torn ∧ ∀ k, (J.writes D p).2.2.sec k = (D.puts p).sec k) ∨
    (∃ (a : Nat) (x : Int × List Int), (a : Int) = D.after ∧ p[a]? = some x ∧ (J.writes D p).1 = 16 ∧ (J.writes D p).2.1 = { J with dead := true } ∧ (J.writes D p).2.2.down = true ∧ (J.writes D p).2.2.n = D.n ∧ ∀ k, (J.writes D p).2.2.sec k = if k = x.1 then D.torn else (D.puts (p.take a)).sec k)
  | [], J, D, hj, hd, hs, ha, _ => .inl ⟨by simpa using ha, rfl, rfl, hd, hs, by simp [Jk.writes], rfl, rfl, fun k => rfl⟩
  | x :: p, J, D, hj, hd, hs, ha, hp => by
    obtain ⟨p0, p1, p2⟩ := hp x List.mem_cons_self
    have hask : D.asked x.1 = 0 := by
      unfold Dk.asked
      rw [hd, if_neg (by decide), if_neg (by omega)]
    by_cases hz : D.after = 0
    · refine .inr ⟨0, x, by omega, rfl, ?_⟩
      have hw : D.write x.1 x.2 = (16, { D.lay x.1 D.torn with set := false, down := true }) := by
        unfold Dk.write
        rw [if_neg (by rw [hask]; simp), if_neg (by omega), if_pos ⟨hs, hz⟩]
      have hjw : J.write D x.1 x.2 = (16, { J with dead := true }, { D.lay x.1 D.torn with set := false, down := true }) := by
        unfold Jk.write
        rw [if_neg (by rw [hj]; simp), hw]
        simp
      unfold Jk.writes
      rw [hjw, if_neg (by simp)]
      refine ⟨rfl, rfl, rfl, rfl, fun k => ?_⟩
      show (D.lay x.1 D.torn).sec k = _
      rw [lay_sec]
      rfl
    · have hw : D.write x.1 x.2 = (0, { D.lay x.1 x.2 with after := D.after - 1, written := D.written + 1 }) := by
        unfold Dk.write
        rw [if_neg (by rw [hask]; simp), if_neg (by omega), if_neg (fun h => hz h.2)]
        simp [hs]
      have hjw : J.write D x.1 x.2 = (0, J, { D.lay x.1 x.2 with after := D.after - 1, written := D.written + 1 }) := by
        unfold Jk.write
        rw [if_neg (by rw [hj]; simp), hw]
        have : ({ J with dead := !decide ((0 : Int) = 0) } : Jk) = J := by
          cases J; simp at hj; subst hj; rfl
        simpa using this
      have ih := live_writes p (J := J) (D := { D.lay x.1 x.2 with after := D.after - 1, written := D.written + 1 }) hj hd hs (by show 0 ≤ D.after - 1; omega) (fun y hy => hp y (List.mem_cons_of_mem _ hy))
      have hsec : ∀ q k, (Dk.puts ({ D.lay x.1 x.2 with after := D.after - 1, written := D.written + 1 } : Dk) q).sec k = (D.puts (x :: q)).sec k := by
        intro q
        have hby : ∀ (q : List (Int × List Int)) (A B : Dk), A.by_ = B.by_ → (A.puts q).by_ = (B.puts q).by_ := by
          intro q
          induction q with
          | nil => intro A B h; exact h
          | cons y q ihq =>
            intro A B h
            refine ihq _ _ ?_
            show (Dk.lay A y.1 y.2).by_ = (Dk.lay B y.1 y.2).by_
            unfold Dk.lay
            dsimp only
            rw [h]
        intro k
        unfold Dk.sec
        have := hby q ({ D.lay x.1 x.2 with after := D.after - 1, written := D.written + 1 } : Dk) (D.lay x.1 x.2) rfl
        rw [this]
        rfl
      unfold Jk.writes
      rw [hjw]
      simp only [if_true]
      rcases ih with ⟨i1, i2, i3, i4, i5, i6, i7, i8, i9⟩ | ⟨a, y, i1, i2, i3, i4, i5, i6, i7⟩
      · refine .inl ⟨?_, i2, i3, i4, i5, ?_, i7, i8, fun k => ?_⟩
        · have : ((p.length : Nat) : Int) ≤ D.after - 1 := i1
          rw [List.length_cons]; omega
        · rw [i6]
          show D.after - 1 - (p.length : Int) = _
          rw [List.length_cons]; omega
        · rw [i9 k]; exact hsec p k
      · refine .inr ⟨a + 1, y, ?_, by simpa using i2, i3, i4, i5, i6, fun k => ?_⟩
        · have : (a : Int) = D.after - 1 := i1
          omega
        · rw [i7 k]
          split
          · rfl
          · exact hsec (p.take a) k
structure CrInv (J : Jk) (D : Dk) : Prop where
  n0 : 8 ≤ D.n
  n1 : D.n ≤ 65536
  e0 : 1 ≤ J.epoch
  e1 : J.epoch ≤ 4294967295
  lo : beginP D.n J.epoch ≤ J.at_
  hi : J.at_ < beginP D.n J.epoch + halfP D.n
  sup : D.sec (J.epoch % 2) = superP J.epoch
  old : epochOfP (D.sec ((J.epoch + 1) % 2)) ((J.epoch + 1) % 2) < J.epoch
  reads : Reads D J.epoch (beginP D.n J.epoch) [] J.at_ J.l
  zero : D.sec J.at_ = zeros64
  each : ∀ b ∈ J.l, 1 ≤ b.length ∧ b.length ≤ 65536
  many : J.l.length ≤ 1000
  dead : J.dead = false
theorem halves {n : Int} (n0 : 8 ≤ n) (n1 : n ≤ 65536) (e : Int) : 3 ≤ halfP n ∧ ((beginP n e = 2 ∧ beginP n (e + 1) = 2 + halfP n) ∨ (beginP n e = 2 + halfP n ∧ beginP n (e + 1) = 2)) ∧ 2 + 2 * halfP n ≤ n := by
  have h1 : 3 ≤ halfP n ∧ 2 + 2 * halfP n ≤ n := by unfold halfP; omega
  refine ⟨h1.1, ?_, h1.2⟩
  unfold beginP
  have : e % 2 = 0 ∨ e % 2 = 1 := by omega
  rcases this with h | h
  · rw [h, show (e + 1) % 2 = 1 from by omega]; right; omega
  · rw [h, show (e + 1) % 2 = 0 from by omega]; left; omega
/-- a disk whose current half and superblocks stand as they were holds the records that were -/
theorem stand_open {J : Jk} {D E : Dk} (h : CrInv J D) (hn : E.n = D.n) (hw : 0 ≤ E.written ∧ E.written ≤ 1152921504606846976) (hB : ∀ k, IsB (E.sec k)) (hs : ∀ k, beginP D.n J.epoch ≤ k → k < J.at_ → E.sec k = D.sec k) (hz : E.sec J.at_ = zeros64) (h0 : E.sec (J.epoch % 2) = D.sec (J.epoch % 2)) (h1 : E.sec ((J.epoch + 1) % 2) = D.sec ((J.epoch + 1) % 2) ∨ E.sec ((J.epoch + 1) % 2) = zeros64) :
    0 < epsP E ∧ (openJ E).l = J.l := by
  have he : epsP E = J.epoch := by
    refine eps_of ⟨h.e0, h.e1⟩ (h0.trans h.sup) ?_
    rcases h1 with h1 | h1
    · rw [h1]; exact h.old
    · rw [h1, epoch_zero]; have := h.e0; omega
  refine ⟨by rw [he]; have := h.e0; omega, ?_⟩
  have hr := h.reads.congr (E := E) hn.symm (fun k k0 k1 => (hs k k0 k1).symm)
  rw [← hn] at hr
  exact open_reads ⟨by rw [hn]; exact h.n0, by rw [hn]; exact h.n1⟩ hw hB he hr (next_zero hz)
theorem secs_of {E : Dk} {at_ : Int} {F : List Int} : ∀ (M : Nat), F.length = M * 64 → (∀ j : Nat, j < M → E.sec (at_ + j) = (F.drop (j * 64)).take 64) → secsP E at_ M = F := by
  intro M hF hj
  have h : ∀ m : Nat, m ≤ M → secsP E at_ m = F.take (m * 64) := by
    intro m
    induction m with
    | zero => intro _; simp [secsP]
    | succ m ih =>
      intro hm
      rw [secsP_succ, ih (by omega), hj m (by omega)]
      have : (m + 1) * 64 = m * 64 + 64 := by omega
      rw [this, List.take_add]
  rw [h M (Nat.le_refl _), List.take_of_length_le (by omega)]
/-- a frame that is being laid -/
theorem lay_state (D : Dk) (at_ : Int) (F : List Int) (M : Nat) (hM : 1 ≤ M) : ∀ i : Nat, 1 ≤ i → i ≤ M →
    (D.puts ((layPlan at_ F M).take (i + 1))).sec at_ = zeros64 ∧ (D.puts ((layPlan at_ F M).take (i + 1))).sec (at_ + M) = zeros64 ∧ ∀ j : Nat, 1 ≤ j → j < i → (D.puts ((layPlan at_ F M).take (i + 1))).sec (at_ + j) = (F.drop (j * 64)).take 64
  | 0, h, _ => absurd h (by omega)
  | 1, _, _ => by
    have e : D.puts ((layPlan at_ F M).take 2) = (D.lay at_ zeros64).lay (at_ + M) zeros64 := rfl
    rw [show 1 + 1 = 2 from rfl, e]
    refine ⟨?_, ?_, fun j h1 h2 => by omega⟩
    · rw [lay_sec, lay_sec]; split
      · rfl
      · rw [if_pos rfl]
    · rw [lay_sec, if_pos rfl]
  | i + 2, _, h2 => by
    obtain ⟨a1, a2, a3⟩ := lay_state D at_ F M hM (i + 1) (by omega) (by omega)
    rw [layPlan_take at_ F M (i + 1) (by omega) (by omega), puts_snoc, Nat.mod_eq_of_lt (by omega)]
    refine ⟨?_, ?_, fun j h3 h4 => ?_⟩
    · rw [lay_sec, if_neg (by dsimp only; omega)]; exact a1
    · rw [lay_sec, if_neg (by dsimp only; omega)]; exact a2
    · rw [lay_sec]
      by_cases hj : j = i + 1
      · subst hj
        rw [if_pos rfl]
      · rw [if_neg (by dsimp only; omega)]
        exact a3 j h3 (by omega)
theorem layPlan_at (at_ : Int) (F : List Int) (M : Nat) (hM : 1 ≤ M) : ∀ x ∈ layPlan at_ F M, at_ ≤ x.1 ∧ x.1 ≤ at_ + M := by
  intro x hx
  unfold layPlan at hx
  rcases List.mem_cons.1 hx with rfl | hx
  · exact ⟨Int.le_refl _, by dsimp only; omega⟩
  · rcases List.mem_cons.1 hx with rfl | hx
    · exact ⟨by dsimp only; omega, Int.le_refl _⟩
    · obtain ⟨i, hi, rfl⟩ := List.mem_map.1 hx
      have hm : i % M < M := Nat.mod_lt _ (by omega)
      exact ⟨by dsimp only; omega, by dsimp only; omega⟩
/-- the frame is laid -/
theorem lay_done (D : Dk) (at_ : Int) (F : List Int) (M : Nat) (hM : 1 ≤ M) (hF : F.length = M * 64) : (D.puts (layPlan at_ F M)).sec (at_ + M) = zeros64 ∧ secsP (D.puts (layPlan at_ F M)) at_ M = F ∧ ∀ k, (k < at_ ∨ at_ + M < k) → (D.puts (layPlan at_ F M)).sec k = D.sec k := by
  obtain ⟨a1, a2, a3⟩ := lay_state D at_ F M hM M hM (Nat.le_refl _)
  have e := layPlan_take at_ F M M hM (Nat.le_refl _)
  rw [List.take_of_length_le (by rw [layPlan_len]; omega), Nat.mod_self] at e
  have e2 : D.puts (layPlan at_ F M) = (D.puts ((layPlan at_ F M).take (M + 1))).lay (at_ + ((0 : Nat) : Int)) ((F.drop (0 * 64)).take 64) := by
    conv => lhs; rw [e]
    rw [puts_snoc]
  refine ⟨?_, ?_, fun k hk => puts_out _ _ _ (fun x hx => ?_)⟩
  · rw [e2, lay_sec, if_neg (by omega)]; exact a2
  · refine secs_of M hF (fun j hj => ?_)
    rw [e2, lay_sec]
    by_cases h0 : j = 0
    · subst h0; rw [if_pos rfl]
    · rw [if_neg (by omega)]
      exact a3 j (by omega) hj
  · have := layPlan_at at_ F M hM x hx
    omega
end Go.Proofs.Ytnjfgbbdfdoccaa
namespace Go.Proofs.Ytnjfgbbdfdoccaa
open Go.RowKit Go.ChangeMaps
set_option linter.unusedSimpArgs false
set_option linter.unusedVariables false
set_option maxRecDepth 20000

def WOk (E : Dk) : Prop := (0 ≤ E.written ∧ E.written ≤ 1152921504606846976) ∧ (∀ k, IsB (E.sec k)) ∧ ∀ k, (E.sec k).length = 64
theorem inv_open {J : Jk} {D : Dk} (h : CrInv J D) (hw : WOk D) : 0 < epsP D ∧ (openJ D).l = J.l :=
  stand_open h rfl hw.1 hw.2.1 (fun k _ _ => rfl) h.zero rfl (.inl rfl)
/-- what is held where a crash comes at a write, noughts or the write itself in its sector -/
def Left (D : Dk) (p : List (Int × List Int)) (ok : List (List Int) → Prop) : Prop :=
  ∀ (a : Nat) (x : Int × List Int), p[a]? = some x → ∀ X, (X = zeros64 ∨ X = x.2) → ∀ E : Dk, E.n = D.n → WOk E → (∀ k, E.sec k = if k = x.1 then X else (D.puts (p.take a)).sec k) → 0 < epsP E ∧ ok (openJ E).l
theorem append_full {J : Jk} {D E : Dk} (h : CrInv J D) {b : List Int} (hb : 1 ≤ b.length ∧ b.length ≤ 65536) (hm : J.l.length < 1000) (hr : (manyP b.length : Int) + 1 ≤ leftP J D) (hn : E.n = D.n) (h64 : ∀ k, (E.sec k).length = 64)
    (hs : ∀ k, E.sec k = (D.puts (layPlan J.at_ (frameP 0 J.epoch (J.l.length + 1) b) (manyP b.length))).sec k) : CrInv { J with l := J.l ++ [b], at_ := J.at_ + manyP b.length } E := by
  have hM : 1 ≤ manyP b.length := by unfold manyP; omega
  obtain ⟨d1, d2, d3⟩ := lay_done D J.at_ (frameP 0 J.epoch (J.l.length + 1) b) (manyP b.length) hM (frameP_len _ _ _ _)
  obtain ⟨q1, q2, q3⟩ := halves h.n0 h.n1 J.epoch
  have lo := h.lo
  have hi := h.hi
  unfold leftP at hr
  have hsec : secsP E J.at_ (manyP b.length) = frameP 0 J.epoch (J.l.length + 1) b := by
    rw [← d2]; exact secsP_congr _ _ (fun k _ _ => hs k)
  have hreads := h.reads.congr (E := E) hn.symm (fun k k0 k1 => by rw [hs k, d3 k (.inl k1)])
  have hnx := next_rec (D := E) (ep := J.epoch) (at_ := J.at_) (l := J.l) (b := b) h64 hb (by have := h.many; omega) hsec (by unfold leftP; rw [hn]; exact hr)
  refine ⟨by rw [hn]; exact h.n0, by rw [hn]; exact h.n1, h.e0, h.e1, ?_, ?_, ?_, ?_, ?_, ?_, ?_, ?_, h.dead⟩
  · rw [hn]; dsimp only; omega
  · rw [hn]; dsimp only; omega
  · dsimp only; rw [hs, d3 _ (.inl (by omega))]; exact h.sup
  · dsimp only; rw [hs, d3 _ (.inl (by omega))]; exact h.old
  · dsimp only; rw [hn]; exact hreads.snoc hnx (by omega)
  · dsimp only; rw [hs]; exact d1
  · intro x hx
    rcases List.mem_append.1 hx with hx | hx
    · exact h.each x hx
    · simp at hx; subst hx; exact hb
  · dsimp only; rw [List.length_append]; simp; omega
theorem append_left {J : Jk} {D : Dk} (h : CrInv J D) {b : List Int} (hb : 1 ≤ b.length ∧ b.length ≤ 65536) (hm : J.l.length < 1000) (hr : (manyP b.length : Int) + 1 ≤ leftP J D) :
    Left D (layPlan J.at_ (frameP 0 J.epoch (J.l.length + 1) b) (manyP b.length)) (fun l => l = J.l ∨ l = J.l ++ [b]) := by
  intro a x hx X hX E hn hw hs
  have hM : 1 ≤ manyP b.length := by unfold manyP; omega
  have hPn := layPlan_len J.at_ (frameP 0 J.epoch (J.l.length + 1) b) (manyP b.length)
  have hin := layPlan_at J.at_ (frameP 0 J.epoch (J.l.length + 1) b) (manyP b.length) hM
  obtain ⟨q1, q2, q3⟩ := halves h.n0 h.n1 J.epoch
  have lo := h.lo
  have hi := h.hi
  have hFL := frameP_len 0 J.epoch (J.l.length + 1) b
  have hfull := fun E hn h64 hs => append_full (E := E) h hb hm hr hn h64 hs
  have hxin := hin x (List.mem_of_getElem? hx)
  obtain ⟨M, hMM⟩ : ∃ M, manyP b.length = M := ⟨_, rfl⟩
  obtain ⟨F, hF⟩ : ∃ F, frameP 0 J.epoch (J.l.length + 1) b = F := ⟨_, rfl⟩
  rw [hMM, hF] at hfull hin hPn hx hs
  rw [hMM] at hM hxin
  rw [hMM, hF] at hFL
  have hout : ∀ k, (k < J.at_ ∨ J.at_ + M < k) → E.sec k = D.sec k := fun k hk => by
    rw [hs, if_neg (by omega)]
    exact puts_out _ _ _ (fun y hy => by have := hin y (List.mem_of_mem_take hy); omega)
  by_cases hz : E.sec J.at_ = zeros64
  · obtain ⟨o1, o2⟩ := stand_open h hn hw.1 hw.2.1 (fun k k0 k1 => hout k (.inl k1)) hz (hout _ (.inl (by omega))) (.inl (hout _ (.inl (by omega))))
    exact ⟨o1, .inl o2⟩
  · have hlast : a = M + 1 ∧ x = (J.at_, F.take 64) ∧ X = F.take 64 := by
      have hal : a < M + 2 := by
        have := (List.getElem?_eq_some_iff.1 hx).1
        rwa [hPn] at this
      rcases Nat.lt_or_ge a 2 with ha | ha
      · exfalso
        rcases Nat.lt_or_ge a 1 with ha1 | ha1
        · have : a = 0 := by omega
          subst this
          have ex : x = (J.at_, zeros64) := by
            have : (layPlan J.at_ F M)[0]? = some (J.at_, zeros64) := rfl
            rw [this] at hx; exact (Option.some.inj hx).symm
          subst ex
          apply hz
          rw [hs, if_pos rfl]
          rcases hX with e | e <;> exact e
        · have : a = 1 := by omega
          subst this
          have ex : x = (J.at_ + M, zeros64) := by
            have : (layPlan J.at_ F M)[1]? = some (J.at_ + M, zeros64) := rfl
            rw [this] at hx; exact (Option.some.inj hx).symm
          subst ex
          apply hz
          rw [hs, if_neg (by dsimp only; omega)]
          have : D.puts ((layPlan J.at_ F M).take 1) = D.lay J.at_ zeros64 := rfl
          rw [this, lay_sec, if_pos rfl]
      · obtain ⟨i, rfl⟩ : ∃ i, a = i + 1 := ⟨a - 1, by omega⟩
        have ex : x = (J.at_ + ((i % M : Nat) : Int), (F.drop (i % M * 64)).take 64) := by
          have h1 := layPlan_take J.at_ F M i (by omega) (by omega)
          have h2 : ((layPlan J.at_ F M).take (i + 2))[i + 1]? = some x := by
            rw [List.getElem?_take_of_lt (by omega)]; exact hx
          rw [h1, List.getElem?_append_right (by rw [List.length_take, hPn]; omega)] at h2
          rw [List.length_take, hPn, show i + 1 - min (i + 1) (M + 2) = 0 from by omega] at h2
          exact (Option.some.inj h2).symm
        by_cases hiM : i = M
        · subst hiM
          rw [Nat.mod_self] at ex
          have ex2 : x = (J.at_, F.take 64) := by rw [ex]; simp
          refine ⟨rfl, ex2, ?_⟩
          rcases hX with e | e
          · exfalso; apply hz; rw [hs, ex2, if_pos rfl]; exact e
          · rw [e, ex2]
        · exfalso
          obtain ⟨s1, _, _⟩ := lay_state D J.at_ F M hM i (by omega) (by omega)
          rw [Nat.mod_eq_of_lt (by omega)] at ex
          apply hz
          rw [hs, if_neg (by rw [ex]; dsimp only; omega)]
          exact s1
    obtain ⟨rfl, rfl, rfl⟩ := hlast
    have hI := hfull E hn hw.2.2 (fun k => by
      have e := layPlan_last J.at_ F M hM
      rw [hs]
      conv => rhs; rw [e]
      rw [puts_snoc, lay_sec])
    obtain ⟨o1, o2⟩ := inv_open hI hw
    exact ⟨o1, .inr o2⟩
/-- a checkpoint's writes ahead of the superblock -/
def Jk.ckQ (J : Jk) (n : Int) : List (Int × List Int) :=
  if J.l.length = 0 then [(beginP n (J.epoch + 1), zeros64)] else layPlan (beginP n (J.epoch + 1)) (frameP 1 (J.epoch + 1) J.l.length (ckOwn J.l)) (manyP (ckOwn J.l).length)
def Jk.ckP (J : Jk) (n : Int) : List (Int × List Int) := J.ckQ n ++ [((J.epoch + 1) % 2, superP (J.epoch + 1))]
theorem check_full {J : Jk} {D E : Dk} (h : CrInv J D) (he : J.epoch < 4294967295) (ho : (ckOwn J.l).length ≤ 67108864) (hr : 0 < J.l.length → (manyP (ckOwn J.l).length : Int) + 1 ≤ halfP D.n) (hn : E.n = D.n) (h64 : ∀ k, (E.sec k).length = 64)
    (hs : ∀ k, E.sec k = if k = (J.epoch + 1) % 2 then superP (J.epoch + 1) else (D.puts (J.ckQ D.n)).sec k) : CrInv { J with epoch := J.epoch + 1, at_ := beginP D.n (J.epoch + 1) + J.checkM } E := by
  obtain ⟨q1, q2, q3⟩ := halves h.n0 h.n1 J.epoch
  have e0 := h.e0
  have hb2 : 2 ≤ beginP D.n (J.epoch + 1) := by omega
  have hck : 0 ≤ J.checkM ∧ J.checkM < halfP D.n := by
    unfold Jk.checkM
    split
    · omega
    · have := hr (by omega); omega
  have hmod : ¬ J.epoch % 2 = (J.epoch + 1) % 2 := by omega
  have hfr : ∀ k, k < beginP D.n (J.epoch + 1) → (D.puts (J.ckQ D.n)).sec k = D.sec k := fun k hk => puts_out _ _ _ (fun x hx => by
    unfold Jk.ckQ at hx
    split at hx
    · simp only [List.mem_singleton] at hx; subst hx; dsimp only; omega
    · have := layPlan_at _ _ _ (by unfold manyP; omega) x hx; omega)
  have hall : Reads E (J.epoch + 1) (beginP D.n (J.epoch + 1)) [] (beginP D.n (J.epoch + 1) + J.checkM) J.l ∧ E.sec (beginP D.n (J.epoch + 1) + J.checkM) = zeros64 := by
    by_cases hl : J.l.length = 0
    · have hl0 : J.l = [] := List.length_eq_zero_iff.1 hl
      have hc : J.checkM = 0 := by unfold Jk.checkM; rw [if_pos hl]
      rw [hc, hl0, Int.add_zero]
      refine ⟨.refl _ _, ?_⟩
      rw [hs, if_neg (by omega)]
      unfold Jk.ckQ
      rw [if_pos hl]
      show (D.lay _ _).sec _ = _
      rw [lay_sec, if_pos rfl]
    · have hc : J.checkM = ((manyP (ckOwn J.l).length : Nat) : Int) := by unfold Jk.checkM; rw [if_neg hl]
      have hM : 1 ≤ manyP (ckOwn J.l).length := by unfold manyP; omega
      obtain ⟨d1, d2, d3⟩ := lay_done D (beginP D.n (J.epoch + 1)) (frameP 1 (J.epoch + 1) J.l.length (ckOwn J.l)) (manyP (ckOwn J.l).length) hM (frameP_len _ _ _ _)
      have hQ : J.ckQ D.n = layPlan (beginP D.n (J.epoch + 1)) (frameP 1 (J.epoch + 1) J.l.length (ckOwn J.l)) (manyP (ckOwn J.l).length) := by unfold Jk.ckQ; rw [if_neg hl]
      rw [← hQ] at d1 d2 d3
      have hsec : secsP E (beginP D.n (J.epoch + 1)) (manyP (ckOwn J.l).length) = frameP 1 (J.epoch + 1) J.l.length (ckOwn J.l) := by
        rw [← d2]; exact secsP_congr _ _ (fun k k0 _ => by rw [hs, if_neg (by omega)])
      have hnx := next_copy (D := E) (ep := J.epoch + 1) (at_ := beginP D.n (J.epoch + 1)) (L := J.l) h64 (by rw [hn]) (by have := h.many; omega) (by omega) hsec (partsP_ck h.each (by omega)) (by unfold leftP; rw [hn]; dsimp only; have := hr (by omega); omega)
      rw [hc]
      refine ⟨?_, ?_⟩
      · have := Reads.step (D := E) (ep := J.epoch + 1) (beginP D.n (J.epoch + 1)) [] J.l _ _ _ hnx (by omega) (.refl _ _)
        simpa using this
      · rw [hs, if_neg (by omega)]; exact d1
  refine ⟨by rw [hn]; exact h.n0, by rw [hn]; exact h.n1, ?_, ?_, ?_, ?_, ?_, ?_, ?_, ?_, h.each, h.many, h.dead⟩
  · dsimp only; omega
  · dsimp only; omega
  · rw [hn]; dsimp only; omega
  · rw [hn]; dsimp only; omega
  · dsimp only; rw [hs, if_pos rfl]
  · dsimp only
    have e2 : (J.epoch + 1 + 1) % 2 = J.epoch % 2 := by omega
    rw [e2, hs, if_neg hmod, hfr _ (by omega), h.sup, epoch_super J.epoch ⟨e0, by omega⟩]
    omega
  · dsimp only; rw [hn]; exact hall.1
  · exact hall.2
theorem check_left {J : Jk} {D : Dk} (h : CrInv J D) (he : J.epoch < 4294967295) (ho : (ckOwn J.l).length ≤ 67108864) (hr : 0 < J.l.length → (manyP (ckOwn J.l).length : Int) + 1 ≤ halfP D.n) :
    Left D (J.ckP D.n) (fun l => l = J.l) := by
  intro a x hx X hX E hn hw hs
  obtain ⟨q1, q2, q3⟩ := halves h.n0 h.n1 J.epoch
  have e0 := h.e0
  have lo := h.lo
  have hi := h.hi
  have hin : ∀ y ∈ J.ckQ D.n, beginP D.n (J.epoch + 1) ≤ y.1 ∧ y.1 < beginP D.n (J.epoch + 1) + halfP D.n := fun y hy => by
    unfold Jk.ckQ at hy
    split at hy
    · simp only [List.mem_singleton] at hy; subst hy; dsimp only; omega
    · have := layPlan_at _ _ _ (by unfold manyP; omega) y hy
      have := hr (by omega)
      omega
  unfold Jk.ckP at hx hs
  by_cases ha : a < (J.ckQ D.n).length
  · rw [List.getElem?_append_left ha] at hx
    rw [List.take_append_of_le_length (by omega)] at hs
    have hx1 := hin x (List.mem_of_getElem? hx)
    have hout : ∀ k, (k < beginP D.n (J.epoch + 1) ∨ beginP D.n (J.epoch + 1) + halfP D.n ≤ k) → E.sec k = D.sec k := fun k hk => by
      rw [hs, if_neg (by omega)]
      exact puts_out _ _ _ (fun y hy => by have := hin y (List.mem_of_mem_take hy); omega)
    exact stand_open h hn hw.1 hw.2.1 (fun k k0 k1 => hout k (by omega)) (by rw [hout _ (by omega)]; exact h.zero) (hout _ (by omega)) (.inl (hout _ (by omega)))
  · have hal : a = (J.ckQ D.n).length := by
      have := (List.getElem?_eq_some_iff.1 hx).1
      rw [List.length_append, List.length_singleton] at this
      omega
    subst hal
    rw [List.getElem?_append_right (Nat.le_refl _), Nat.sub_self] at hx
    have ex : x = ((J.epoch + 1) % 2, superP (J.epoch + 1)) := (Option.some.inj hx).symm
    subst ex
    rw [List.take_left] at hs
    have hout : ∀ k, (k < beginP D.n (J.epoch + 1) ∨ beginP D.n (J.epoch + 1) + halfP D.n ≤ k) → (D.puts (J.ckQ D.n)).sec k = D.sec k := fun k hk =>
      puts_out _ _ _ (fun y hy => by have := hin y hy; omega)
    rcases hX with hX | hX
    · refine stand_open h hn hw.1 hw.2.1 (fun k k0 k1 => ?_) ?_ ?_ (.inr ?_)
      · rw [hs, if_neg (by dsimp only; omega), hout k (by omega)]
      · rw [hs, if_neg (by dsimp only; omega), hout _ (by omega)]; exact h.zero
      · rw [hs, if_neg (by dsimp only; omega), hout _ (by omega)]
      · rw [hs, if_pos rfl, hX]
    · have hI := check_full h he ho hr hn hw.2.2 (fun k => by rw [hs, hX])
      exact inv_open (J := { J with epoch := J.epoch + 1, at_ := beginP D.n (J.epoch + 1) + J.checkM }) hI hw
end Go.Proofs.Ytnjfgbbdfdoccaa
namespace Go.Proofs.Ytnjfgbbdfdoccaa
open Go.RowKit Go.ChangeMaps
set_option linter.unusedSimpArgs false
set_option linter.unusedVariables false
set_option maxRecDepth 20000

structure Live (D : Dk) (T : List Int) : Prop where
  down : D.down = false
  set : D.set = true
  after : 0 ≤ D.after
  torn : D.torn = T
theorem does_tie : ∀ (p : List (Int × List Int)) {J : Jk} {D : Dk} {R : Rk}, J.dead = false → Same D R → (J.writes D p).1 = (R.does p).1 ∧ Same (J.writes D p).2.2 (R.does p).2 ∧ (J.writes D p).2.1 = { J with dead := !decide ((R.does p).1 = 0) }
  | [], J, D, R, hj, hs => ⟨rfl, hs, by cases J; simp at hj; subst hj; rfl⟩
  | x :: p, J, D, R, hj, hs => by
    obtain ⟨h1, h2⟩ := hs.write x.1 x.2
    have hw : J.write D x.1 x.2 = ((D.write x.1 x.2).1, { J with dead := !decide ((D.write x.1 x.2).1 = 0) }, (D.write x.1 x.2).2) := by
      unfold Jk.write; rw [if_neg (by rw [hj]; simp)]
    unfold Jk.writes Rk.does
    rw [hw, ← h1]
    by_cases h0 : (D.write x.1 x.2).1 = 0
    · rw [if_pos h0, if_pos h0]
      have := does_tie p (J := { J with dead := !decide ((D.write x.1 x.2).1 = 0) }) (D := (D.write x.1 x.2).2) (R := (R.write x.1 x.2).2) (by dsimp only; rw [decide_eq_true h0]; rfl) h2
      exact this
    · rw [if_neg h0, if_neg h0]
      exact ⟨h1, h2, by rw [← h1]⟩
theorem plan_out {J : Jk} {D : Dk} {R : Rk} {T : List Int} {p : List (Int × List Int)} (hL : Live D T) (hj : J.dead = false) (hs : Same D R) (hp : ∀ x ∈ p, 0 ≤ x.1 ∧ x.1 < D.n ∧ x.2.length = 64) :
    ((R.does p).1 = 0 ∧ (J.writes D p).1 = 0 ∧ (J.writes D p).2.1 = J ∧ Live (J.writes D p).2.2 T ∧ (J.writes D p).2.2.n = D.n ∧ (∀ k, (J.writes D p).2.2.sec k = (D.puts p).sec k) ∧ Same (J.writes D p).2.2 (R.does p).2) ∨
    ((R.does p).1 = 16 ∧ (J.writes D p).1 = 16 ∧ (J.writes D p).2.2.down = true ∧ (J.writes D p).2.2.n = D.n ∧ Same (J.writes D p).2.2 (R.does p).2 ∧ ∃ (a : Nat) (x : Int × List Int), p[a]? = some x ∧ R.asks p = p.take a ++ [x] ∧ ∀ k, (J.writes D p).2.2.sec k = if k = x.1 then T else (D.puts (p.take a)).sec k) := by
  obtain ⟨t1, t2, t3⟩ := does_tie p hj hs
  rcases live_writes p hj hL.down hL.set hL.after hp with ⟨i1, i2, i3, i4, i5, i6, i7, i8, i9⟩ | ⟨a, x, i1, i2, i3, i4, i5, i6, i7⟩
  · exact .inl ⟨t1.symm.trans i2, i2, i3, ⟨i4, i5, by rw [i6]; omega, i8.trans hL.torn⟩, i7, i9, t2⟩
  · refine .inr ⟨t1.symm.trans i3, i3, i5, i6, t2, a, x, i2, ?_, fun k => by rw [i7 k, hL.torn]⟩
    have ha := (List.getElem?_eq_some_iff.1 i2)
    obtain ⟨ha1, ha2⟩ := ha
    -- the first a writes are done
    have hta : (R.does (p.take a)).1 = 0 := by
      have := live_writes (p.take a) (J := J) (D := D) hj hL.down hL.set hL.after (fun y hy => hp y (List.mem_of_mem_take hy))
      obtain ⟨u1, _, _⟩ := does_tie (p.take a) (J := J) hj hs
      rcases this with ⟨_, k2, _⟩ | ⟨c, y, k1, k2, _⟩
      · rw [← u1]; exact k2
      · have := (List.getElem?_eq_some_iff.1 k2).1
        rw [List.length_take] at this
        omega
    have hpa : p.take (a + 1) = p.take a ++ [x] := by rw [List.take_succ_eq_append_getElem ha1, ha2]
    have hne : (R.does (p.take (a + 1))).1 ≠ 0 := fun h0 => by
      -- else all of the first a + 1 were done
      have := live_writes (p.take (a + 1)) (J := J) (D := D) hj hL.down hL.set hL.after (fun y hy => hp y (List.mem_of_mem_take hy))
      obtain ⟨u1, _, _⟩ := does_tie (p.take (a + 1)) (J := J) hj hs
      rcases this with ⟨k1, _⟩ | ⟨c, y, _, _, k3, _⟩
      · rw [List.length_take] at k1; omega
      · rw [u1, h0] at k3; exact absurd k3 (by decide)
    obtain ⟨_, s2⟩ := Rk.does_stop hne (p.drop (a + 1))
    rw [List.take_append_drop] at s2
    rw [s2, hpa, Rk.asks_snoc, if_pos hta, Rk.asks_all _ hta]
/-- a crash has come -/
structure Crash (D : Dk) (M : Mj) (T : List Int) (ok : List (List Int) → Prop) : Prop where
  down : D.down = true
  ex : ∃ (A : List (Int × ByteArray)) (k : Int) (x : List Int), M.asked = A ++ [(k, strOfNums x)] ∧ 0 ≤ k ∧ k < D.n ∧ x.length = 64 ∧ IsB x ∧ D.sec k = T ∧
    ∀ X, (X = zeros64 ∨ X = x) → ∀ E : Dk, E.n = D.n → WOk E → (∀ y, E.sec y = if y = k then X else D.sec y) → 0 < epsP E ∧ ok (openJ E).l
theorem crash_of {D : Dk} {R : Rk} {M : Mj} {T : List Int} {p : List (Int × List Int)} {ok : List (List Int) → Prop} (hp : ∀ x ∈ p, 0 ≤ x.1 ∧ x.1 < D.n ∧ x.2.length = 64) (hB : ∀ x ∈ p, IsB x.2) (hl : Left D p ok) {D' : Dk} (h1 : D'.down = true) (h2 : D'.n = D.n)
    (hx : ∃ (a : Nat) (x : Int × List Int), p[a]? = some x ∧ R.asks p = p.take a ++ [x] ∧ ∀ k, D'.sec k = if k = x.1 then T else (D.puts (p.take a)).sec k) : Crash D' (M.done R p) T ok := by
  obtain ⟨a, x, x1, x2, x3⟩ := hx
  have hm := List.mem_of_getElem? x1
  obtain ⟨p0, p1, p2⟩ := hp x hm
  refine ⟨h1, M.asked ++ rowsOf (p.take a), x.1, x.2, ?_, p0, by rw [h2]; exact p1, p2, hB x hm, by rw [x3, if_pos rfl], fun X hX E hn hw hs => ?_⟩
  · show M.asked ++ rowsOf (R.asks p) = _
    rw [x2]; simp [rowsOf]
  · refine hl a x x1 X hX E (hn.trans h2) hw (fun k => ?_)
    rw [hs]
    split
    · rfl
    · rename_i hk
      rw [x3, if_neg hk]
structure Tie (J : Jk) (D : Dk) (M : Mj) (R : Rk) : Prop where
  jk : M.jk = J
  same : Same D R
theorem Tie.left {J : Jk} {D : Dk} {M : Mj} {R : Rk} (h : Tie J D M R) : M.left R = leftP J D := by
  obtain ⟨h1, h2⟩ := h
  subst h1
  unfold Mj.left leftP Mj.jk
  rw [h2.n]
theorem append_out {D : Dk} {M : Mj} {R : Rk} {T b : List Int} (h : CrInv M.jk D) (hL : Live D T) (hs : Same D R) (hb : IsB b) (hm : M.l.length < 1000) (h64 : ∀ k, ((M.jk.append D b).2.2.sec k).length = 64) :
    ((M.jk.append D b).1 = 0 ∧ CrInv (M.append R b).2.1.jk (M.jk.append D b).2.2 ∧ (M.append R b).2.1.l = M.l ++ [b] ∧ Live (M.jk.append D b).2.2 T ∧ (M.jk.append D b).2.2.n = D.n ∧ (M.append R b).2.1.jk = (M.jk.append D b).2.1 ∧ Same (M.jk.append D b).2.2 (M.append R b).2.2) ∨
    (((M.jk.append D b).1 = 2 ∨ (M.jk.append D b).1 = 7) ∧ (M.jk.append D b).2 = (M.jk, D) ∧ (M.append R b).2 = (M, R)) ∨
    ((M.jk.append D b).1 = 16 ∧ Crash (M.jk.append D b).2.2 (M.append R b).2.1 T (fun l => l = M.l ∨ l = M.l ++ [b]) ∧ Same (M.jk.append D b).2.2 (M.append R b).2.2 ∧ (M.jk.append D b).2.2.n = D.n) := by
  have hj : M.dead = false := h.dead
  have hle : M.left R = leftP M.jk D := by unfold Mj.left leftP Mj.jk; rw [hs.n]
  have hre : mroomB M R b.length = roomB M.jk D b.length := by unfold mroomB roomB; rw [hle]
  by_cases c1 : b.length = 0 ∨ 65536 < b.length
  · have e1 : M.jk.append D b = (2, M.jk, D) := by
      unfold Jk.append; rw [if_neg (by show ¬ M.dead = true; rw [hj]; simp), if_pos c1]
    have e2 : M.append R b = (2, M, R) := by
      unfold Mj.append; rw [if_neg (by rw [hj]; simp), if_pos c1]
    rw [e1, e2]
    exact .inr (.inl ⟨.inl rfl, rfl, rfl⟩)
  · by_cases c2 : roomB M.jk D b.length = false
    · have e1 : M.jk.append D b = (7, M.jk, D) := by
        unfold Jk.append; rw [if_neg (by show ¬ M.dead = true; rw [hj]; simp), if_neg c1, if_pos c2]
      have e2 : M.append R b = (7, M, R) := by
        unfold Mj.append; rw [if_neg (by rw [hj]; simp), if_neg c1, if_pos (by rw [hre]; exact c2)]
      rw [e1, e2]
      exact .inr (.inl ⟨.inr rfl, rfl, rfl⟩)
    · have hr := of_decide_eq_true (show roomB M.jk D b.length = true by simpa using c2)
      obtain ⟨r1, r2, r3⟩ := hr
      rw [many_int] at r3
      obtain ⟨P, hP⟩ : ∃ P, layPlan M.at_ (frameP 0 M.epoch (M.l.length + 1) b) (manyP b.length) = P := ⟨_, rfl⟩
      have e1 : M.jk.append D b = if (M.jk.writes D P).1 = 0 then (0, { (M.jk.writes D P).2.1 with l := M.l ++ [b], at_ := M.at_ + manyP b.length }, (M.jk.writes D P).2.2) else M.jk.writes D P := by
        rw [← hP]
        unfold Jk.append; rw [if_neg (by show ¬ M.dead = true; rw [hj]; simp), if_neg c1, if_neg c2]
        rfl
      have e2 : M.append R b = if (R.does P).1 = 0 then (0, { M.done R P with l := M.l ++ [b], at_ := M.at_ + manyP b.length }, (R.does P).2) else ((R.does P).1, M.done R P, (R.does P).2) := by
        rw [← hP]
        unfold Mj.append; rw [if_neg (by rw [hj]; simp), if_neg c1, if_neg (by rw [hre]; exact c2)]
      obtain ⟨q1, q2, q3⟩ := halves h.n0 h.n1 M.jk.epoch
      have lo := h.lo
      have hM : 1 ≤ manyP b.length := by unfold manyP; omega
      have hat : M.jk.at_ = M.at_ := rfl
      have r3' := r3
      unfold leftP at r3'
      rw [hat] at lo r3'
      have hpin : ∀ x ∈ P, 0 ≤ x.1 ∧ x.1 < D.n ∧ x.2.length = 64 := by
        rw [← hP]
        exact layPlan_in (by omega) (by omega) hM (frameP_len _ _ _ _)
      have hpb : ∀ x ∈ P, IsB x.2 := by
        rw [← hP]
        exact fun x hx => (layPlan_isM (frameP_isB (by omega) hb) x hx).1
      rcases plan_out hL (J := M.jk) hj hs hpin with ⟨o1, o2, o3, o4, o5, o6, o7⟩ | ⟨o1, o2, o3, o4, o5, o6⟩
      · rw [e1, if_pos o2] at h64
        rw [e1, e2, if_pos o2, if_pos o1]
        refine .inl ⟨rfl, ?_, rfl, o4, o5, ?_, o7⟩
        · have hd : (M.dead || !decide ((R.does P).1 = 0)) = false := by rw [hj, o1]; rfl
          have := append_full (E := (M.jk.writes D P).2.2) h (b := b) ⟨by omega, by omega⟩ hm r3 o5 h64 (fun k => by rw [o6, ← hP]; rfl)
          unfold Mj.jk Mj.done
          dsimp only
          rw [hd, ← hj]
          exact this
        · have hd : (M.dead || !decide ((R.does P).1 = 0)) = false := by rw [hj, o1]; rfl
          rw [o3]
          unfold Mj.jk Mj.done
          dsimp only
          rw [hd, hj]
      · rw [e1, e2, if_neg (by rw [o2]; decide), if_neg (by rw [o1]; decide)]
        refine .inr (.inr ⟨o2, ?_, o5, o4⟩)
        have hl := append_left h (b := b) ⟨by omega, by omega⟩ hm r3
        rw [show layPlan M.jk.at_ (frameP 0 M.jk.epoch (M.jk.l.length + 1) b) (manyP b.length) = P from hP] at hl
        exact crash_of hpin hpb hl o3 o4 o6
theorem ckP_tie {M : Mj} {D : Dk} {R : Rk} (hs : Same D R) : M.ckPlan R.n = M.jk.ckP D.n := by
  rw [← hs.n]; rfl
theorem check_writes {J : Jk} {D : Dk} (hj : J.dead = false) (hf : ¬ (J.epoch = 4294967295 ∨ (0 < J.l.length ∧ halfP D.n < ((manyP (ckOwn J.l).length : Nat) : Int) + 1))) :
    J.check D = if (J.writes D (J.ckP D.n)).1 = 0 then (0, { (J.writes D (J.ckP D.n)).2.1 with epoch := J.epoch + 1, at_ := beginP D.n (J.epoch + 1) + J.checkM }, (J.writes D (J.ckP D.n)).2.2) else J.writes D (J.ckP D.n) := by
  have hA : J.checkA D = J.writes D (J.ckQ D.n) := by
    unfold Jk.checkA Jk.ckQ
    split
    · simp only [Jk.writes]
      split
      · rename_i h0
        exact Prod.ext h0 rfl
      · rfl
    · rfl
  unfold Jk.check
  rw [if_neg (by rw [hj]; simp), if_neg hf, hA]
  unfold Jk.ckP Jk.checkB
  rw [Jk.writes_snoc]
  by_cases h0 : (J.writes D (J.ckQ D.n)).1 = 0
  · rw [if_pos h0, if_pos h0]
  · rw [if_neg h0, if_neg h0, if_neg h0]
theorem check_out {D : Dk} {M : Mj} {R : Rk} {T : List Int} (h : CrInv M.jk D) (hL : Live D T) (hs : Same D R) (hB : ∀ b ∈ M.l, IsB b) (ho : (ckOwn M.l).length ≤ 67108864) (h64 : ∀ k, ((M.jk.check D).2.2.sec k).length = 64) :
    ((M.jk.check D).1 = 0 ∧ CrInv (M.check R).2.1.jk (M.jk.check D).2.2 ∧ (M.check R).2.1.l = M.l ∧ Live (M.jk.check D).2.2 T ∧ (M.jk.check D).2.2.n = D.n ∧ (M.check R).2.1.jk = (M.jk.check D).2.1 ∧ Same (M.jk.check D).2.2 (M.check R).2.2) ∨
    ((M.jk.check D).1 = 7 ∧ (M.jk.check D).2 = (M.jk, D) ∧ (M.check R).2 = (M, R)) ∨
    ((M.jk.check D).1 = 16 ∧ Crash (M.jk.check D).2.2 (M.check R).2.1 T (fun l => l = M.l) ∧ Same (M.jk.check D).2.2 (M.check R).2.2 ∧ (M.jk.check D).2.2.n = D.n) := by
  have hj : M.dead = false := h.dead
  by_cases c1 : M.epoch = 4294967295 ∨ (0 < M.l.length ∧ halfP D.n < ((manyP (ckOwn M.l).length : Nat) : Int) + 1)
  · have e1 : M.jk.check D = (7, M.jk, D) := by
      unfold Jk.check; rw [if_neg (by show ¬ M.dead = true; rw [hj]; simp)]; exact if_pos c1
    have e2 : M.check R = (7, M, R) := by
      unfold Mj.check; rw [if_neg (by rw [hj]; simp), if_pos (by rw [← hs.n]; exact c1)]
    rw [e1, e2]
    exact .inr (.inl ⟨rfl, rfl, rfl⟩)
  · have e1 := check_writes (J := M.jk) (D := D) hj c1
    have hpe := ckP_tie (M := M) hs
    obtain ⟨P, hP⟩ : ∃ P, M.jk.ckP D.n = P := ⟨_, rfl⟩
    have e2 : M.check R = if (R.does P).1 = 0 then (0, { M.done R P with epoch := M.epoch + 1, at_ := beginP R.n (M.epoch + 1) + M.ckM }, (R.does P).2) else ((R.does P).1, M.done R P, (R.does P).2) := by
      rw [← hP, ← hpe]
      unfold Mj.check; rw [if_neg (by rw [hj]; simp), if_neg (by rw [← hs.n]; exact c1)]
    rw [hP] at e1
    obtain ⟨q1, q2, q3⟩ := halves h.n0 h.n1 M.epoch
    have hep : M.jk.epoch < 4294967295 := by
      have := h.e1
      have h2 : ¬ M.jk.epoch = 4294967295 := fun e => c1 (.inl e)
      omega
    have hr : 0 < M.jk.l.length → (manyP (ckOwn M.jk.l).length : Int) + 1 ≤ halfP D.n := fun h0 => by
      have h2 : ¬ (0 < M.l.length ∧ halfP D.n < ((manyP (ckOwn M.l).length : Nat) : Int) + 1) := fun e => c1 (.inr e)
      have h3 : 0 < M.l.length := h0
      show ((manyP (ckOwn M.l).length : Nat) : Int) + 1 ≤ halfP D.n
      omega
    have e0 := h.e0
    have hpin : ∀ x ∈ P, 0 ≤ x.1 ∧ x.1 < D.n ∧ x.2.length = 64 := by
      intro x hx
      rw [← hP] at hx
      unfold Jk.ckP at hx
      rcases List.mem_append.1 hx with hx | hx
      · unfold Jk.ckQ at hx
        have hee : M.jk.epoch = M.epoch := rfl
        rw [hee] at hx
        split at hx
        · simp only [List.mem_singleton] at hx
          subst hx
          exact ⟨by dsimp only; omega, by dsimp only; omega, rfl⟩
        · rename_i hl0
          have h5 := hr (by omega)
          have h6 : ((manyP (ckOwn M.jk.l).length : Nat) : Int) + 1 ≤ halfP D.n := h5
          exact layPlan_in (by omega) (by omega) (by unfold manyP; omega) (frameP_len _ _ _ _) x hx
      · simp only [List.mem_singleton] at hx
        subst hx
        have hee : M.jk.epoch = M.epoch := rfl
        exact ⟨by dsimp only; omega, by dsimp only; omega, superP_len _⟩
    have hpb : ∀ x ∈ P, IsB x.2 := by
      rw [← hP, ← hpe]
      exact fun x hx => (Mj.ckPlan_isB R.n hB x hx).1
    have hcm : M.ckM = M.jk.checkM := rfl
    rcases plan_out hL (J := M.jk) hj hs hpin with ⟨o1, o2, o3, o4, o5, o6, o7⟩ | ⟨o1, o2, o3, o4, o5, o6⟩
    · rw [e1, if_pos o2] at h64
      rw [e1, e2, if_pos o2, if_pos o1]
      have hd : (M.dead || !decide ((R.does P).1 = 0)) = false := by rw [hj, o1]; rfl
      refine .inl ⟨rfl, ?_, rfl, o4, o5, ?_, o7⟩
      · have := check_full (E := (M.jk.writes D P).2.2) h hep ho hr o5 h64 (fun k => by
          rw [o6, ← hP]
          unfold Jk.ckP
          rw [puts_snoc, lay_sec])
        unfold Mj.jk Mj.done
        dsimp only
        rw [hd, ← hj, hcm, ← hs.n]
        exact this
      · rw [o3]
        unfold Mj.jk Mj.done
        dsimp only
        rw [hd, hj, ← hs.n]
        rfl
    · rw [e1, e2, if_neg (by rw [o2]; decide), if_neg (by rw [o1]; decide)]
      refine .inr (.inr ⟨o2, ?_, o5, o4⟩)
      have hl := check_left h hep ho hr
      rw [hP] at hl
      exact crash_of hpin hpb hl o3 o4 o6
end Go.Proofs.Ytnjfgbbdfdoccaa
namespace Go.Proofs.Ytnjfgbbdfdoccaa
open Go.RowKit Go.ChangeMaps
set_option linter.unusedSimpArgs false
set_option linter.unusedVariables false
set_option maxRecDepth 20000

theorem str_yesE {s t : ByteArray} (h : s = t) : (@BEq.beq (List UInt8) (@List.instBEq UInt8 instBEqOfDecidableEq) s.toList t.toList) = true := by rw [h, beq_self_eq_true]
theorem str_noE {s t : ByteArray} (h : s ≠ t) : (@BEq.beq (List UInt8) (@List.instBEq UInt8 instBEqOfDecidableEq) s.toList t.toList) = false := by
  have := str_noB h
  rwa [Bool.not_eq_true'] at this
def Jk.mj (J : Jk) : Mj := ⟨J.epoch, J.at_, J.l, J.dead, []⟩
theorem MMod.toNil {base j : Nat} {w0 w w' : World} (h0 : Mod [] w0 w) (hb : w0.heap.size ≤ base) (hj : w0.heap.size ≤ j) (h : MMod base j w w') : Mod [] w0 w' := by
  obtain ⟨ks, m, h1⟩ := h
  exact Mod.into' h0 m (fun k hk => .inl (by rcases h1 k hk with e | e <;> omega))
def OpenM (w : World) (b : Nat) (R : Rk) (D : Dk) (e : Ending) (w' : World) : Prop :=
  Mod [] w w' ∧ ((epsP D = 0 ∧ e = .returned (.tuple #[.pointer none, .int .i64 5])) ∨ (0 < epsP D ∧ ∃ j, e = .returned (.tuple #[.pointer (some ⟨j, 0, none⟩), .int .i64 0]) ∧ MAt w' w.heap.size j b (openJ D).mj R))
theorem epI_same {D : Dk} {i : Nat} {n : Int} (hn : numP ((D.sec i).drop 1) = n) (h0 : 0 ≤ epI D i) (hx : ¬ (epI D i < n ∧ n % 2 = (i : Int) ∧ D.sec i = superP n)) : epI D (i + 1) = epI D i := by
  show max (epI D i) (epochOfP (D.sec i) i) = _
  have : epochOfP (D.sec i) i ≤ epI D i := by
    unfold epochOfP
    rw [hn]
    split
    · exact h0
    · rename_i hc
      by_cases h : epI D i < n
      · exact absurd ⟨h, Decidable.byContradiction fun e => hc (.inr (.inl e)), Decidable.byContradiction fun e => hc (.inr (.inr e))⟩ hx
      · omega
  omega
theorem epI_more {D : Dk} {i : Nat} {n : Int} (hn : numP ((D.sec i).drop 1) = n) (h0 : 0 ≤ epI D i) (h1 : epI D i < n) (h2 : n % 2 = (i : Int)) (h3 : D.sec i = superP n) : epI D (i + 1) = n := by
  show max (epI D i) (epochOfP (D.sec i) i) = _
  have : epochOfP (D.sec i) i = n := by
    unfold epochOfP
    rw [hn, if_neg (by
      intro h
      rcases h with h | h | h
      · omega
      · exact h h2
      · exact h h3)]
  omega
set_option maxHeartbeats 16000000 in
theorem mjOpen_at {w : World} {b : Nat} {R : Rk} {D : Dk} (h : DkAt w b R) (hn : 8 ≤ R.n ∧ R.n ≤ 65536) (hS : Same D R) (hd : R.down = false) (hB : ∀ k, IsB (D.sec k)) (h64 : ∀ k, (D.sec k).length = 64) (hr : R.rows.length ≤ 65536) (hw : 0 ≤ R.written ∧ R.written ≤ 1152921504606846) :
    Calls Try.prog 53 #[.pointer (some ⟨b, 0, none⟩)] w (OpenM w b R D) := by
  obtain ⟨n0, n1⟩ := hn
  obtain ⟨v0, e0⟩ := h.cell
  have c0 : w.cell? ⟨b, 0, none⟩ = some (.int .i64 R.n) := by rw [cell_blk e0]; rfl
  have c3 : w.cell? ⟨b, 3, none⟩ = some (.bool false) := by rw [cell_blk e0, ← hd]; rfl
  have d8 : decide (R.n < 8) = false := decide_eq_false (by omega)
  obtain ⟨w1, hAl, kA, zA, mA⟩ := alloc_named2 w (.cells #[.pointer (some ⟨b, 0, none⟩), .int .i64 0, .int .i64 0, .slice none 0 0, .bool false, .slice none 0 0] 55)
  obtain ⟨j, hj⟩ : ∃ j, w.heap.size = j := ⟨_, rfl⟩
  rw [hj] at kA
  have HM1 := Lib.hid (show MAt w1 w.heap.size j b ⟨epI D 0, 0, [], false, []⟩ R from ⟨⟨.slice none 0 0, .slice none 0 0, kA, OwnR.nil_ _ _, OwnR.nil_ _ _⟩, h.kept0 mA⟩)
  have HMA := Lib.hid mA
  have HJ := Lib.hid hj
  have hDn := hS.n
  have HREAD := Lib.hid (show ∀ i : Nat, i < 2 → ∀ u, DkAt u b R → Calls Try.prog 64 #[.pointer (some ⟨b, 0, none⟩), .int .i64 i, .int .i64 1] u fun e w' => e = .returned (.string (strOfNums (D.sec i))) ∧ Mod [] u w' from fun i hi u hu => by
    have := mjRead_at hu hS hd h64 (i : Int) 1 (by omega) (by omega) n1
    rw [secsP_one] at this
    exact this)
  have HNUM := Lib.hid (show ∀ i : Nat, ∀ u, Calls Try.prog 65 #[.string (strOfNums (D.sec i)), .int .i64 1] u fun e w' => e = .returned (.int .i64 (numP ((D.sec i).drop 1))) ∧ Mod [] u w' from fun i u => mjNumber_at (D.sec i) 1 (by rw [h64]; omega) (by omega) (hB _) u)
  have HSUP := Lib.hid (show ∀ n : Int, 0 ≤ n → n ≤ 4294967295 → ∀ u, Calls Try.prog 42 #[.int .i64 n] u fun e w' => e = .returned (.string (strOfNums (superP n))) ∧ Mod [] u w' from fun n g0 g1 u => mjSuper_at n g0 (by omega) u)
  have HB := Lib.hid hB
  have HR := Lib.hid hr
  have HW := Lib.hid hw
  have HSm := Lib.hid hS
  have HD := Lib.hid hd
  have H64 := Lib.hid h64
  clear h kA zA mA hr hw e0 hB hS hd h64
  go_enter Try.func53, Try.ntmps53
  go_wp2_with fail
  try rw [hj]
  try rw [hAl]
  clear hAl c0 c3
  go_loopw [5] (fun s5 W => ∃ i : Nat, i ≤ 2 ∧ s5 = .int .i64 i ∧ Hid (MAt W w.heap.size j b ⟨epI D i, 0, [], false, []⟩ R ∧ Mod [] w W)) (fun s5 _ => 2 - (intOf s5).toNat)
  case atStart => exact ⟨0, by omega, rfl, Lib.hid ⟨HM1.out, HMA.out⟩⟩
  case round =>
    clear HM1 HMA
    obtain ⟨i, hi, rfl, hT⟩ := hrel
    obtain ⟨hM, hMW⟩ := hT.out
    obtain ⟨ep0, ep1⟩ := epI_range HB.out i
    by_cases hlt : i < 2
    · have d1 : decide ((i : Int) < 2) = true := decide_eq_true (by omega)
      have CR := Lib.hid (HREAD.out i hlt wr hM.disk)
      have HM := Lib.hid hM
      have HMW := Lib.hid hMW
      obtain ⟨nv, hnv⟩ : ∃ nv, numP ((D.sec i).drop 1) = nv := ⟨_, rfl⟩
      obtain ⟨v0, v1⟩ := numP_range ((HB.out i).drop 1)
      have HNV := Lib.hid hnv
      have CN := Lib.hid (HNUM.out i)
      rw [hnv] at CN v0 v1
      have CS := Lib.hid (HSUP.out nv v0 v1)
      have HEQ := Lib.hid (fun e => strs_inj (HB.out i) (superP_isB nv) e)
      have HSAME := Lib.hid (fun hx => epI_same (D := D) (i := i) hnv ep0 hx)
      have HMORE := Lib.hid (fun a b c => epI_more (D := D) (i := i) hnv ep0 a b c)
      have HCG := Lib.hid (show D.sec i = superP nv → strOfNums (D.sec i) = strOfNums (superP nv) from fun e => congrArg strOfNums e)
      generalize strOfNums (D.sec i) = ts at *
      generalize strOfNums (superP nv) = tn at *
      obtain ⟨ep, hep⟩ : ∃ ep, epI D i = ep := ⟨_, rfl⟩
      rw [hep] at HM ep0 ep1 HSAME HMORE
      clear hM hMW hT hep hnv
      go_wp2_with fail
      refine CR.out.mono ?_
      rintro e w2 ⟨rfl, m2⟩
      have HM := Lib.hid (HM.out.kept0 m2)
      have HMW := Lib.hid (HMW.out.trans m2)
      clear m2 CR
      go_wp2_with fail
      refine (CN.out _).mono ?_
      rintro e w3 ⟨rfl, m3⟩
      have HM := Lib.hid (HM.out.kept0 m3)
      have HMW := Lib.hid (HMW.out.trans m3)
      obtain ⟨c0, c1, c2, c4, cb⟩ := HM.out.cells
      clear m3 CN c0 c2 c4 cb
      by_cases g1 : ep < nv
      · have t1 : decide (ep < nv) = true := decide_eq_true g1
        by_cases g2 : nv % 2 = (i : Int)
        · have t2 : (nv % 2 == (i : Int)) = true := by simpa using g2
          have HG2 := Lib.hid g2
          clear g2
          by_cases g3 : ts = tn
          · have t3 := str_yesE g3
            have HN := Lib.hid (HMORE.out g1 HG2.out (HEQ.out g3))
            clear g3
            go_wp2_with fail
            refine (CS.out _).mono ?_
            rintro e w4 ⟨rfl, m4⟩
            have hM4 := HM.out.kept0 m4
            have c1 := hM4.cells.2.1
            have g1c : w4.frozen? ⟨j, 1, none⟩ = false := by
              obtain ⟨⟨lv, av, e1, _⟩, _⟩ := hM4
              exact frozen_blk e1 1
            obtain ⟨hM5, s5⟩ := hM4.setEp nv
            have HM5 := Lib.hid (show MAt (w4.setCell ⟨j, 1, none⟩ (.int .i64 nv)) w.heap.size j b ⟨epI D (i + 1), 0, [], false, []⟩ R from by rw [HN.out]; exact hM5)
            have HMW5 := Lib.hid (show Mod [] w (w4.setCell ⟨j, 1, none⟩ (.int .i64 nv)) from Mod.into' (HMW.out.trans m4) s5 (fun k hk => by
              simp only [List.mem_singleton] at hk
              subst hk
              exact .inl (by have := HJ.out; omega)))
            clear m4 hM4 hM5 s5
            go_wp2_with fail
            go_roundw
            case rel => exact ⟨i + 1, by omega, by go_num, Lib.hid ⟨HM5.out, HMW5.out⟩⟩
            case measure => simp [intOf]; omega
          · have t3 := str_noE g3
            have HN := Lib.hid (HSAME.out (fun h => g3 (HCG.out h.2.2)))
            clear g3
            go_wp2_with fail
            refine (CS.out _).mono ?_
            rintro e w4 ⟨rfl, m4⟩
            have HM5 := Lib.hid (show MAt w4 w.heap.size j b ⟨epI D (i + 1), 0, [], false, []⟩ R from by rw [HN.out]; exact HM.out.kept0 m4)
            have HMW5 := Lib.hid (HMW.out.trans m4)
            clear m4
            go_wp2_with fail
            go_roundw
            case rel => exact ⟨i + 1, by omega, by go_num, Lib.hid ⟨HM5.out, HMW5.out⟩⟩
            case measure => simp [intOf]; omega
        · have t2 : (nv % 2 == (i : Int)) = false := by simpa using g2
          have HN := Lib.hid (HSAME.out (fun h => g2 h.2.1))
          have HM5 := Lib.hid (show MAt w3 w.heap.size j b ⟨epI D (i + 1), 0, [], false, []⟩ R from by rw [HN.out]; exact HM.out)
          clear g2
          go_wp2_with fail
          go_roundw
          case rel => exact ⟨i + 1, by omega, by go_num, Lib.hid ⟨HM5.out, HMW.out⟩⟩
          case measure => simp [intOf]; omega
      · have t1 : decide (ep < nv) = false := decide_eq_false g1
        have HN := Lib.hid (HSAME.out (fun h => g1 h.1))
        have HM5 := Lib.hid (show MAt w3 w.heap.size j b ⟨epI D (i + 1), 0, [], false, []⟩ R from by rw [HN.out]; exact HM.out)
        go_wp2_with fail
        go_roundw
        case rel => exact ⟨i + 1, by omega, by go_num, Lib.hid ⟨HM5.out, HMW.out⟩⟩
        case measure => simp [intOf]; omega
    · obtain rfl : i = 2 := by omega
      have d1 : decide (((2 : Nat) : Int) < 2) = false := by decide
      rw [epI_two] at ep0 ep1 hM
      obtain ⟨c0, c1, c2, c4, cb⟩ := hM.cells
      have HM := Lib.hid hM
      have HMW := Lib.hid hMW
      clear hM hMW hT
      by_cases hz : epsP D = 0
      · have t1 : (epsP D == 0) = true := by simpa using hz
        have HP := Lib.hid (show OpenM w b R D (.returned (.tuple #[.pointer none, .int .i64 5])) wr from ⟨HMW.out, .inl ⟨hz, rfl⟩⟩)
        generalize epsP D = ep at *
        go_wp2_with fail
        go_ret2
        exact HP.out
      · have t1 : (epsP D == 0) = false := by simpa using hz
        have HE := Lib.hid (show 0 < epsP D from by omega)
        have HL0 := Lib.hid (Loads.start (D := D) (by omega) (by have := HW.out; have := HSm.out.written; omega) HB.out)
        obtain ⟨D1, hD1, mD1⟩ : ∃ D, wr.drew = D ∧ Mod [] wr D := ⟨_, rfl, (Mod.refl [] wr).drew⟩
        have hM1 := HM.out.kept0 mD1
        obtain ⟨p0, p1, p2, p4, pb⟩ := hM1.cells
        have g2 : D1.frozen? ⟨j, 2, none⟩ = false := by
          obtain ⟨⟨lv, av, e1, _⟩, _⟩ := hM1
          exact frozen_blk e1 2
        have CB := Lib.hid (mjBegin_at R.n (epsP D) (by omega) n1 ep0 (by omega) D1)
        obtain ⟨hM2, s2⟩ := hM1.setAt (beginP R.n (epsP D))
        have HM2 := Lib.hid (show MAt (D1.setCell ⟨j, 2, none⟩ (.int .i64 (beginP R.n (epsP D)))) w.heap.size j b (openJ0 D).mj R from by
          unfold openJ0 Jk.mj
          rw [hDn]; exact hM2)
        have HMW2 := Lib.hid (show Mod [] w (D1.setCell ⟨j, 2, none⟩ (.int .i64 (beginP R.n (epsP D)))) from Mod.into' (HMW.out.trans mD1) s2 (fun k hk => by
          simp only [List.mem_singleton] at hk
          subst hk
          exact .inl (by have := HJ.out; omega)))
        have HEP := Lib.hid (show ∀ (jj : Nat) (x : World), Mod [] w x → MAt x w.heap.size jj b (openJ D).mj R → OpenM w b R D (.returned (.tuple #[.pointer (some ⟨jj, 0, none⟩), .int .i64 0])) x from fun jj x m1 m2 => ⟨m1, .inr ⟨HE.out, jj, rfl, m2⟩⟩)
        generalize beginP R.n (epsP D) = bg at *
        generalize epsP D = ep at *
        clear hM1 hM2 s2 mD1 hz HE HM
        go_wp2_with fail
        refine wp_plan [([0, 1, 5, 2, 6, 3, 7, 4, 8], 9, []), ([10, 11], 12, [])] [] (by kernel_rfl) (by kernel_rfl) ?_
        simp only [wpSegs, opsOf, List.map_cons, List.map_nil, opN, List.getD_cons_zero, List.getD_cons_succ]
        rw [hD1]
        go_wp2_with fail
        refine ⟨by first | trivial | rfl, ?_⟩
        go_wp2_with fail
        refine CB.out.mono ?_
        rintro e w9 ⟨rfl, rfl⟩
        clear hD1 p0 p1 p4 pb c0 c1 c2 c4 cb
        go_wp2_with fail
        refine ⟨again_nil, ?_⟩
        go_wp2_with fail
        refine ⟨by first | trivial | rfl, ?_⟩
        go_wp2_with fail
        refine ⟨again_nil, ?_⟩
        go_wp2_with fail
        refine ⟨by first | trivial | rfl, ?_⟩
        go_wp2_with fail
        clear CB p2 g2
        go_loopg [68, 69] 65537 (fun gg s68 s69 W => ∃ (J : Jk) (f : Nat), f ≤ gg ∧ Hid (Loads J D f) ∧ Hid (MAt W w.heap.size j b J.mj R ∧ Mod [] w W))
        case atStart => exact ⟨openJ0 D, 65537, Nat.le_refl _, HL0, Lib.hid ⟨HM2.out, HMW2.out⟩⟩
        case round =>
          clear HM2 HMW2 HL0
          obtain ⟨J, f, hgg, HLD, HO⟩ := hrel
          have hok := HLD.out.ok
          have CT := Lib.hid (mjNext_at HO.out.1 (M := J.mj) ⟨n0, n1, hok.e0, hok.e1, hok.a0, hok.a1, HW.out.1, HW.out.2, hok.l0, HR.out, by simp [Jk.mj]⟩ HSm.out HD.out HB.out H64.out HO.out.2.size)
          clear hok
          obtain ⟨m, hm⟩ : ∃ m, (J.mj.jk.next D).2 = m := ⟨_, rfl⟩
          have HPS := Lib.hid (show NextM wr w.heap.size j b J.mj R D = fun e w' => e = .returned (.bool (decide (0 < m))) ∧ MAt w' w.heap.size j b (J.mj.take D) R ∧ MMod w.heap.size j wr w' from by subst hm; rfl)
          rw [HPS.out] at CT
          have hjk : J.mj.jk = J := rfl
          rw [hjk] at hm
          have HMm := Lib.hid hm
          clear hm HPS hjk
          go_wp2_with fail
          refine CT.out.mono ?_
          rintro e x1 ⟨rfl, hA, hmm⟩
          have HA := Lib.hid (show MAt x1 w.heap.size j b (J.take D).mj R from hA)
          have HMX := Lib.hid (hmm.toNil HO.out.2 (Nat.le_refl _) (by have := HJ.out; omega))
          clear hA hmm CT
          by_cases hmo : 0 < m
          · have d1 : decide (0 < m) = true := decide_eq_true hmo
            obtain ⟨g, rfl⟩ : ∃ g, f = g + 1 := by
              cases f with
              | zero =>
                have h1 := HLD.out.fuel
                have h2 := HLD.out.hi
                omega
              | succ g => exact ⟨g, rfl⟩
            have HLN := Lib.hid (HLD.out.step HB.out (by rw [HMm.out]; exact hmo))
            rw [d1]
            go_wp2_with fail
            go_roundg g
            case rel => exact ⟨J.take D, g, Nat.le_refl _, HLN, Lib.hid ⟨HA.out, HMX.out⟩⟩
            case measure => omega
          · have d1 : decide (0 < m) = false := decide_eq_false hmo
            have HDN := Lib.hid (HLD.out.done HB.out (by rw [HMm.out]; exact hmo))
            have HE := Lib.hid (HEP.out j x1 HMX.out (by rw [← HDN.out]; exact HA.out))
            rw [d1]
            go_wp2_with fail
            go_ret2
            exact HE.out
end Go.Proofs.Ytnjfgbbdfdoccaa
namespace Go.Proofs.Ytnjfgbbdfdoccaa
open Go.RowKit Go.ChangeMaps
set_option linter.unusedSimpArgs false
set_option linter.unusedVariables false
set_option maxRecDepth 20000

def Dk.calm (D : Dk) : Dk := { D with down := false, set := false }
def Rk.calm (R : Rk) : Rk := { R with down := false, set := false }
theorem Same.calm {D : Dk} {R : Rk} (h : Same D R) : Same D.calm R.calm :=
  ⟨h.n, h.pos, h.written, rfl, rfl, h.after, fun e => absurd e (by simp [Dk.calm]), h.rows⟩
/-- the disk on which it is looked for -/
def heldD (D : Dk) (k : Int) (l : List Int) : Dk := (D.calm.write k l).2
theorem heldD_sec (D : Dk) (k : Int) (l : List Int) (h0 : 0 ≤ k) (h1 : k < D.n) (hl : l.length = 64) : (heldD D k l).n = D.n ∧ (heldD D k l).down = false ∧ ∀ x, (heldD D k l).sec x = if x = k then l else D.sec x := by
  have ha : D.calm.asked k = 0 := by
    unfold Dk.asked Dk.calm
    rw [if_neg (by simp), if_neg (by show ¬ (k < 0 ∨ D.n ≤ k); omega)]
  have hs : D.calm.set = false := rfl
  unfold heldD Dk.write
  rw [if_neg (by rw [ha]; simp), if_neg (by omega), if_neg (by rw [hs]; simp)]
  refine ⟨rfl, rfl, fun x => ?_⟩
  show (Dk.sec _ x) = _
  unfold Dk.sec Dk.lay
  dsimp only
  by_cases hx : x = k
  · rw [if_pos hx, if_pos hx]; rfl
  · rw [if_neg hx, if_neg hx]; rfl
def HeldRet (w : World) (E : Dk) (e : Ending) (w' : World) : Prop :=
  Mod [] w w' ∧ ((epsP E = 0 ∧ e = .returned (.tuple #[.slice none 0 0, .bool false])) ∨ (0 < epsP E ∧ ∃ v, e = .returned (.tuple #[v, .bool true]) ∧ OwnR encStr 1 9 w' w.heap.size v ((openJ E).l.map strOfNums)))
set_option maxHeartbeats 8000000 in
theorem held_at {w : World} {b : Nat} {R : Rk} {D : Dk} (h : DkAt w b R) (hn : 8 ≤ R.n ∧ R.n ≤ 65536) (hS : Same D R) (hB : ∀ k, IsB (D.sec k)) (h64 : ∀ k, (D.sec k).length = 64) (hr : R.rows.length ≤ 65535) (hw : 0 ≤ R.written ∧ R.written ≤ 1152921504606845)
    (k : Int) (h0 : 0 ≤ k) (h1 : k < R.n) (l : List Int) (hl : l.length = 64) (hb : IsB l) :
    Calls Try.prog 22 #[.pointer (some ⟨b, 0, none⟩), .int .i64 k, .string (strOfNums l)] w (HeldRet w (heldD D k l)) := by
  obtain ⟨v0, g0, hR, hne⟩ := h
  have CC := Lib.hid (rcopy_any hR (by omega))
  obtain ⟨s1, s2, s3⟩ := heldD_sec D k l h0 (by rw [hS.n]; exact h1) hl
  have HSW := hS.calm.write k l
  have hww := written_write R.calm k l
  have hrw := rows_write R.calm k l
  have HW1 := Lib.hid (show 0 ≤ (R.calm.write k l).2.written ∧ (R.calm.write k l).2.written ≤ 1152921504606846 ∧ (R.calm.write k l).2.rows.length ≤ 65536 from by
    have e1 : R.calm.written = R.written := rfl
    have e2 : R.calm.rows = R.rows := rfl
    rw [e1] at hww
    rw [e2] at hrw
    omega)
  have HS2 := Lib.hid (show Same (heldD D k l) (R.calm.write k l).2 from HSW.2)
  have HB2 := Lib.hid (show ∀ x, IsB ((heldD D k l).sec x) from fun x => by rw [s3]; split; exact hb; exact hB x)
  have H642 := Lib.hid (show ∀ x, ((heldD D k l).sec x).length = 64 from fun x => by rw [s3]; split; exact hl; exact h64 x)
  have HD2 := Lib.hid (show (R.calm.write k l).2.down = false from by rw [← HS2.out.down]; exact s2)
  have HN2 := Lib.hid (show (R.calm.write k l).2.n = R.n from by rw [← HS2.out.n, s1, hS.n])
  have HN := Lib.hid hn
  have HRB := Lib.hid hr
  have HWB := Lib.hid hw
  have HBL := Lib.hid hb
  have HL := Lib.hid hl
  clear hR hS hB h64 hr hw hb hl s1 s2 s3 HSW hww hrw
  go_enter Try.func22, Try.ntmps22
  go_wp2_with fail
  refine CC.out.mono ?_
  rintro e w1 ⟨c, v1, g1, rfl, m1, hR1, hc, hg, hcg⟩
  obtain ⟨hR2, ms2⟩ := hR1.downs hcg false
  obtain ⟨hR3, ms3⟩ := hR2.sets hcg false
  have g3 := frozen_blk hR1.blk 3
  have q3 := hR1.c3
  have q4 := hR2.c4
  have g4 := frozen_blk hR2.blk 4
  have HR3 := Lib.hid (show RefAt ((w1.setCell ⟨c, 3, none⟩ (.bool false)).setCell ⟨c, 4, none⟩ (.bool false)) c v1 g1 R.calm from hR3)
  obtain ⟨W2, hW2⟩ : ∃ W, (w1.setCell ⟨c, 3, none⟩ (.bool false)).setCell ⟨c, 4, none⟩ (.bool false) = W := ⟨_, rfl⟩
  have HM2 := Lib.hid (show Mod [] w W2 from by
    rw [← hW2]
    exact Mod.into' m1 (ms2.trans ms3) (fun k hk => .inl (by simp at hk; omega)))
  rw [hW2] at HR3
  have hcl : c < W2.heap.size := lt_of_heap HR3.out.blk
  have HC := Lib.hid hc
  obtain ⟨cc, W3, hcv, mW3, hrow, hcc⟩ := conv_str l HBL.out W2
  obtain ⟨gS, hgS⟩ : ∃ g, W2.heap.size = g := ⟨_, rfl⟩
  rw [hgS] at hcv hrow hcl
  have HCV := Lib.hid hcv
  have hR4 := HR3.out.kept mW3 (by simp) (by simp)
  have CW := Lib.hid (rwrite_any hR4 hcg (by have := HRB.out; show R.rows.length ≤ _; omega) k hrow.bytes (fun _ bb o n cx e => by cases e; omega) (by rw [HL.out]; unfold maxLen; omega) HWB.out.1 (by have := HWB.out.2; show R.written ≤ _; omega))
  have HM3 := Lib.hid (HM2.out.trans mW3)
  have hc3 : c < W3.heap.size := lt_of_heap hR4.blk
  have HW2 := Lib.hid hW2
  clear m1 hR1 hR2 hR3 ms2 ms3 hc hg hcv hrow mW3 hR4 CC hW2
  go_upto_region 4 with fail
  rw [HW2.out]
  clear q3 q4 g3 g4
  go_wp2_with ((with_reducible refine xConvertAt rfl HCV.out ?_ ?_ ?_); exact rfl; exact rfl)
  refine CW.out.mono ?_
  rintro e w4 ⟨rfl, mw, v', g', hg', hR5⟩
  have hne5 : c ≠ g' := by
    rcases hg' with e | e
    · rw [e]; exact hcg
    · omega
  have HM4 := Lib.hid (show Mod [] w w4 from Mod.into' HM3.out mw (fun x hx => by
    simp only [List.mem_singleton] at hx
    subst hx
    exact .inl HC.out))
  have CO := Lib.hid (mjOpen_at ⟨v', g', hR5, hne5⟩ (by rw [HN2.out]; exact HN.out) HS2.out HD2.out HB2.out H642.out HW1.out.2.2 ⟨HW1.out.1, HW1.out.2.1⟩)
  clear mw hg' hR5 hne5 CW
  go_wp2_with fail
  refine CO.out.mono ?_
  rintro e w5 ⟨m5, hp⟩
  have HM5 := Lib.hid (HM4.out.trans m5)
  rcases hp with ⟨hz, rfl⟩ | ⟨hz, j, rfl, hM⟩
  · have HZ := Lib.hid hz
    clear hz m5 CO
    go_wp2_with fail
    go_ret2
    exact ⟨HM5.out, .inl ⟨HZ.out, rfl⟩⟩
  · have HZ := Lib.hid hz
    obtain ⟨⟨lv, av, e1, e2, e3⟩, hd⟩ := hM
    have q3 : w5.cell? ⟨j, 3, none⟩ = some lv := by rw [cell_blk e1]; rfl
    have HO := Lib.hid (show OwnR encStr 1 9 w5 w.heap.size lv ((openJ (heldD D k l)).l.map strOfNums) from e2.mono HM4.out.size)
    clear hz m5 CO e1 e2 e3 hd
    go_wp2_with fail
    go_ret2
    exact ⟨HM5.out, .inr ⟨HZ.out, _, rfl, HO.out⟩⟩
end Go.Proofs.Ytnjfgbbdfdoccaa
namespace Go.Proofs.Ytnjfgbbdfdoccaa
open Go.RowKit Go.ChangeMaps
set_option linter.unusedSimpArgs false
set_option linter.unusedVariables false
set_option maxRecDepth 20000

def fmtM : Mj := ⟨1, 2, [], false, []⟩
theorem fmtPlan_isB : ∀ x ∈ fmtPlan, IsB x.2 ∧ x.2.length ≤ 65536 := by
  intro x hx
  have hz : IsB zeros64 := isB_zeros 64
  have hz2 : zeros64.length = 64 := rfl
  unfold fmtPlan at hx
  simp only [List.mem_cons, List.not_mem_nil, or_false] at hx
  rcases hx with rfl | rfl | rfl | rfl
  · exact ⟨hz, by rw [hz2]; omega⟩
  · exact ⟨hz, by rw [hz2]; omega⟩
  · exact ⟨hz, by rw [hz2]; omega⟩
  · exact ⟨superP_isB 1, by rw [superP_len]; omega⟩
set_option maxHeartbeats 4000000 in
theorem mjFormat_at {w : World} {b : Nat} {R : Rk} (h : DkAt w b R) (hn : 8 ≤ R.n ∧ R.n ≤ 65536) (hr : R.rows.length ≤ 65536) (hw : 0 ≤ R.written ∧ R.written ≤ 1152921504606846) :
    Calls Try.prog 16 #[.pointer (some ⟨b, 0, none⟩)] w fun e w' => ∃ j, e = .returned (.tuple #[.pointer (some ⟨j, 0, none⟩), .int .i64 (R.does fmtPlan).1]) ∧ w.heap.size ≤ j ∧ MAt w' w.heap.size j b (fmtM.done R fmtPlan) (R.does fmtPlan).2 ∧ Mod [b] w w' := by
  obtain ⟨n0, n1⟩ := hn
  have HPAD := Lib.hid (show ∀ u, Calls Try.prog 40 #[.string ⟨#[]⟩, .int .i64 64] u fun e w' => e = .returned (.string (strOfNums zeros64)) ∧ Mod [] u w' from fun u => mjPadded_at [] 64 (by decide) (by omega) u)
  have HSUP := Lib.hid (show ∀ u, Calls Try.prog 42 #[.int .i64 1] u fun e w' => e = .returned (.string (strOfNums (superP 1))) ∧ Mod [] u w' from fun u => mjSuper_at 1 (by omega) (by omega) u)
  obtain ⟨v0, e0⟩ := h.cell
  have c0 : w.cell? ⟨b, 0, none⟩ = some (.int .i64 R.n) := by rw [cell_blk e0]; rfl
  have d8 : decide (R.n < 8) = false := decide_eq_false (by omega)
  obtain ⟨w1, hAl, kA, zA, mA⟩ := alloc_named2 w (.cells #[.pointer (some ⟨b, 0, none⟩), .int .i64 1, .int .i64 2, .slice none 0 0, .bool false, .slice none 0 0] 55)
  obtain ⟨j, hj⟩ : ∃ j, w.heap.size = j := ⟨_, rfl⟩
  rw [hj] at kA
  have HM1 := Lib.hid (show MAt w1 w.heap.size j b fmtM R from ⟨⟨.slice none 0 0, .slice none 0 0, kA, OwnR.nil_ _ _, OwnR.nil_ _ _⟩, h.kept0 mA⟩)
  have HMD := Lib.hid mA
  have HJ := Lib.hid hj
  have HR := Lib.hid hr
  have HW := Lib.hid hw
  have HE0 := Lib.hid e0
  clear h kA zA mA hr hw e0
  go_enter Try.func16, Try.ntmps16
  go_wp2_with fail
  try rw [hj]
  try rw [hAl]
  refine (HPAD.out _).mono ?_
  rintro e w2 ⟨rfl, m2⟩
  have HM2 := Lib.hid (HM1.out.kept0 m2)
  have HMD := Lib.hid (HMD.out.trans m2)
  clear m2 hAl c0
  go_wp2_with fail
  refine (HSUP.out _).mono ?_
  rintro e w3 ⟨rfl, m3⟩
  have HM3 := Lib.hid (HM2.out.kept0 m3)
  have HMD := Lib.hid (HMD.out.trans m3)
  clear m3
  obtain ⟨w4, hAl, kA, zA, mA⟩ := alloc_named2 w3 (.cells #[.int .i64 0, .string (strOfNums zeros64), .int .i64 1, .string (strOfNums zeros64), .int .i64 2, .string (strOfNums zeros64), .int .i64 1, .string (strOfNums (superP 1))] 53)
  obtain ⟨g, hg⟩ : ∃ g, w3.heap.size = g := ⟨_, rfl⟩
  rw [hg] at kA
  have hO := own_lit (enc := encRw) (k := 2) (base := w.heap.size) (l := rowsOf fmtPlan) kA rfl (n := 4) rfl encRw_len (by rw [← hg]; exact HMD.out.size) (by simp [rowsOf, fmtPlan])
  have CD := Lib.hid (mjDo_at (HM3.out.kept0 mA) hO fmtPlan_isB (Nat.le_trans HMD.out.size mA.size) (by have := HR.out; simp [fmtPlan]; omega) (by have := HW.out; omega) (by simp [fmtM, fmtPlan]) (by simp [fmtPlan]))
  have HMD := Lib.hid (HMD.out.trans mA)
  have HAl := Lib.hid hAl
  have HG := Lib.hid hg
  clear hAl kA zA mA hg hO
  go_wp2_with fail
  try rw [HG.out]
  try rw [HAl.out]
  refine CD.out.mono ?_
  rintro e w5 ⟨rfl, hM5, m5⟩
  have HM5 := Lib.hid (show MAt w5 w.heap.size j b (fmtM.done R fmtPlan) (R.does fmtPlan).2 from hM5)
  have HMM := Lib.hid (show Mod [b] w w5 from Mod.into' HMD.out.nil m5 (fun k hk => by
    simp only [List.mem_cons, List.not_mem_nil, or_false] at hk
    rcases hk with rfl | rfl
    · exact .inl (by omega)
    · exact .inr (by simp)))
  clear hM5 m5 CD
  go_wp2_with fail
  go_ret2
  exact ⟨j, rfl, by have := HJ.out; omega, HM5.out, HMM.out⟩
set_option maxHeartbeats 2000000 in
theorem mjSameT_at {w : World} {v1 v2 : Value} {xs bs : List ByteArray} (h1 : RowAt encStr w v1 xs) (h2 : RowAt encStr w v2 bs) (hl : xs.length ≤ 1048576) :
    Calls Try.prog 23 #[v1, v2] w fun e w' => e = .returned (.bool (decide (xs = bs))) ∧ Mod [] w w' := by
  obtain ⟨va, vc, rfl⟩ := h1.form
  obtain ⟨sa, sc, rfl⟩ := h2.form
  have H1 := Lib.hid h1
  have H2 := Lib.hid h2
  clear h1 h2
  by_cases hn : xs.length = bs.length
  · have HN := Lib.hid hn
    go_enter Try.func23, Try.ntmps23
    rw [← hn]
    obtain ⟨na, hna⟩ : ∃ n, xs.length = n := ⟨_, rfl⟩
    have HA := Lib.hid hna
    rw [hna] at hl
    rw [hna]
    clear hn hna
    go_wp2_with fail
    go_loopw [5] (fun s5 W => ∃ i : Nat, i ≤ na ∧ s5 = .int .i64 i ∧ Hid (xs.take i = bs.take i ∧ Mod [] w W)) (fun s5 _ => na - (intOf s5).toNat)
    case atStart => exact ⟨0, by omega, rfl, Lib.hid ⟨rfl, Mod.refl _ _⟩⟩
    case round =>
      obtain ⟨i, hi, rfl, hS⟩ := hrel
      by_cases hlt : i < na
      · have hil : i < xs.length := by rw [HA.out]; exact hlt
        have hib : i < bs.length := by rw [← HN.out]; exact hil
        have HM := Lib.hid hS.out.2
        obtain ⟨D0, hD0, mD0⟩ : ∃ D, wr.drew = D ∧ Mod [] wr D := ⟨_, rfl, (Mod.refl [] wr).drew⟩
        have hr1 := (H1.out.kept0 HM.out).kept0 mD0
        obtain ⟨q, o, heq, hc, hg⟩ := RowAt.get encStr_len hr1 hil
        cases heq
        have p0 := hg 0 (.string xs[i]) (by omega) rfl
        simp only [Nat.mul_one, Nat.add_zero] at p0
        have hr2 := (H2.out.kept0 HM.out).kept0 mD0
        obtain ⟨q2, o2, heq2, hc2, hg2⟩ := RowAt.get encStr_len hr2 hib
        cases heq2
        have p1 := hg2 0 (.string bs[i]) (by omega) rfl
        simp only [Nat.mul_one, Nat.add_zero] at p1
        have HTK := Lib.hid (show bs.take (i + 1) = bs.take i ++ [bs[i]] from List.take_succ_eq_append_getElem hib)
        have HTL := Lib.hid (show xs.take (i + 1) = xs.take i ++ [xs[i]] from List.take_succ_eq_append_getElem hil)
        generalize bs[i] = t at p1 HTK
        generalize xs[i] = s at p0 HTL
        have HM2 := Lib.hid (HM.out.trans mD0)
        have d1 : decide ((i : Int) < (na : Int)) = true := decide_eq_true (by omega)
        have d2 : decide ((i : Int) < 0) = false := decide_eq_false (by omega)
        have d3 : decide ((na : Int) ≤ (i : Int)) = false := decide_eq_false (by omega)
        have HST := Lib.hid hS.out.1
        clear hr1 hc hg hc2 hg2 hr2 hS mD0 hil hib
        by_cases hst : s = t
        · have d4 := str_yesB hst
          subst hst
          have HNX := Lib.hid (show xs.take (i + 1) = bs.take (i + 1) from by rw [HTK.out, HTL.out, HST.out])
          go_wp2_with fail
          refine wp_plan [] [0, 1, 4, 5, 2, 6, 3, 7, 8] (by kernel_rfl) (by kernel_rfl) ?_
          simp only [wpSegs, opsOf, List.map_cons, List.map_nil, opN, List.getD_cons_zero, List.getD_cons_succ]
          rw [hD0]
          go_wp2_with fail
          refine ⟨by first | trivial | rfl, ?_⟩
          go_wp2_with fail
          go_roundw
          case rel => exact ⟨i + 1, by omega, by go_num, Lib.hid ⟨HNX.out, HM2.out⟩⟩
          case measure => simp [intOf]; omega
        · have d4 := str_noB hst
          have HNX := Lib.hid (show decide (xs = bs) = false from decide_eq_false fun e => hst (by
            have h1 := HTL.out
            rw [e, HTK.out] at h1
            simp only [List.append_cancel_left_eq, List.cons.injEq, and_true] at h1
            exact h1.symm))
          go_wp2_with fail
          refine wp_plan [] [0, 1, 4, 5, 2, 6, 3, 7, 8] (by kernel_rfl) (by kernel_rfl) ?_
          simp only [wpSegs, opsOf, List.map_cons, List.map_nil, opN, List.getD_cons_zero, List.getD_cons_succ]
          rw [hD0]
          go_wp2_with fail
          refine ⟨by first | trivial | rfl, ?_⟩
          go_wp2_with fail
          go_ret
          exact ⟨by rw [HNX.out]; rfl, HM2.out⟩
      · obtain rfl : i = na := by omega
        have d1 : decide ((i : Int) < (i : Int)) = false := decide_eq_false (by omega)
        have HNX := Lib.hid (show decide (xs = bs) = true from decide_eq_true (take_all_eq HN.out i HA.out.symm hS.out.1))
        have HM := Lib.hid hS.out.2
        clear hS
        go_wp2_with fail
        go_ret
        exact ⟨by rw [HNX.out]; rfl, HM.out⟩
  · have d1 : ((xs.length : Int) != (bs.length : Int)) = true := by simp; omega
    have HNX := Lib.hid (show decide (xs = bs) = false from decide_eq_false fun e => hn (by rw [e]))
    clear hn
    go_enter Try.func23, Try.ntmps23
    go_wp2_with fail
    go_ret
    exact ⟨by rw [HNX.out]; rfl, Mod.refl _ _⟩
end Go.Proofs.Ytnjfgbbdfdoccaa
namespace Go.Proofs.Ytnjfgbbdfdoccaa
open Go.RowKit Go.ChangeMaps
set_option linter.unusedSimpArgs false
set_option linter.unusedVariables false
set_option maxRecDepth 20000

theorem next_eq {J : Jk} {D E : Dk} (hn : D.n = E.n) (hs : ∀ k, D.sec k = E.sec k) : J.next E = J.next D := by
  have hb : ∀ a n, secsP D a n = secsP E a n := fun a n => secsP_congr n a (fun k _ _ => hs k)
  have hl : leftP J E = leftP J D := by unfold leftP; rw [hn]
  unfold Jk.next
  rw [hl, ← hs, ← hn]
  simp only [hb]
theorem load_eq {D E : Dk} (hn : D.n = E.n) (hs : ∀ k, D.sec k = E.sec k) : ∀ (f : Nat) (J : Jk), J.load f E = J.load f D
  | 0, J => rfl
  | f + 1, J => by
    have h := next_eq (J := J) hn hs
    unfold Jk.load
    rw [h]
    split
    · rw [load_eq hn hs f]
      unfold Jk.take
      rw [h]
    · rfl
theorem open_eq {D E : Dk} (hn : D.n = E.n) (hs : ∀ k, D.sec k = E.sec k) : epsP E = epsP D ∧ openJ E = openJ D := by
  have he : epsP E = epsP D := by unfold epsP; rw [hs, hs]
  refine ⟨he, ?_⟩
  unfold openJ openJ0
  rw [he, ← hn]
  exact load_eq hn hs _ _
theorem asks_len : ∀ (p : List (Int × List Int)) (R : Rk), (R.asks p).length ≤ p.length
  | [], R => Nat.le_refl _
  | x :: p, R => by
    unfold Rk.asks
    split
    · have := asks_len p (R.write x.1 x.2).2
      simp only [List.length_cons]; omega
    · simp
theorem done_bound (M : Mj) (R : Rk) (p : List (Int × List Int)) : (M.done R p).asked.length ≤ M.asked.length + p.length := by
  unfold Mj.done
  have := asks_len p R
  simp only [List.length_append, rowsOf, List.length_map]; omega
theorem append_bound (M : Mj) (R : Rk) (b : List Int) (hb : b.length ≤ 3000) : R.written ≤ (M.append R b).2.2.written ∧ (M.append R b).2.2.written ≤ R.written + 60 ∧ (M.append R b).2.2.rows.length ≤ R.rows.length + 60 ∧ (M.append R b).2.1.asked.length ≤ M.asked.length + 60 := by
  have hm : manyP b.length ≤ 50 := by unfold manyP; omega
  unfold Mj.append
  split
  · dsimp only; omega
  · split
    · dsimp only; omega
    · split
      · dsimp only; omega
      · have h1 := Rk.does_bound (layPlan M.at_ (frameP 0 M.epoch (M.l.length + 1) b) (manyP b.length)) R
        have h2 := done_bound M R (layPlan M.at_ (frameP 0 M.epoch (M.l.length + 1) b) (manyP b.length))
        rw [layPlan_len] at h1 h2
        split
        · dsimp only; omega
        · dsimp only; omega
theorem check_bound (M : Mj) (R : Rk) (hn : R.n ≤ 300) : R.written ≤ (M.check R).2.2.written ∧ (M.check R).2.2.written ≤ R.written + 160 ∧ (M.check R).2.2.rows.length ≤ R.rows.length + 160 ∧ (M.check R).2.1.asked.length ≤ M.asked.length + 160 := by
  unfold Mj.check
  split
  · dsimp only; omega
  · split
    · dsimp only; omega
    · rename_i hc
      have hp : (M.ckPlan R.n).length ≤ 160 := by
        unfold Mj.ckPlan
        rw [List.length_append, List.length_singleton]
        split
        · simp
        · rw [layPlan_len]
          have hh : halfP R.n ≤ 150 := by unfold halfP; omega
          have : ¬ (0 < M.l.length ∧ halfP R.n < ((manyP (ckOwn M.l).length : Nat) : Int) + 1) := fun e => hc (.inr e)
          omega
      have h1 := Rk.does_bound (M.ckPlan R.n) R
      have h2 := done_bound M R (M.ckPlan R.n)
      split
      · dsimp only; omega
      · dsimp only; omega
/-- blocks that the program's journal turns are none of the document's -/
theorem MAt.jmod {w w' : World} {base mb jm b : Nat} {M : Mj} {R : Rk} (h : MAt w mb jm b M R) (hm : JMod base w w') : MAt w' mb jm b M R := by
  obtain ⟨ks, m, hk⟩ := hm
  have h0 := h
  obtain ⟨⟨lv, av, e1, _⟩, hd⟩ := h0
  obtain ⟨v0, e2⟩ := hd.cell
  refine h.kept m (fun hj => ?_) (fun hb => ?_) (fun k hkk cs E f hc => ?_)
  · have := (hk jm hj).2 _ _ _ e1
    revert this; decide
  · have := (hk b hb).2 _ _ _ e2
    revert this; decide
  · have := (hk k hkk).2 cs E f hc
    rcases this with rfl | rfl | rfl <;> decide
theorem JAt.mmod {w w' : World} {base j d m mb jm b : Nat} {J : Jk} {D : Dk} {M : Mj} {R : Rk} (h : JAt w base j d m J D) (hM : MAt w mb jm b M R) (hm : Mod [jm, b] w w') : JAt w' base j d m J D := by
  obtain ⟨⟨lv, av, e1, _⟩, hd⟩ := hM
  obtain ⟨v0, e2⟩ := hd.cell
  have ht : ∀ k ∈ [jm, b], ¬ JT w k := fun k hk ht => by
    simp only [List.mem_cons, List.not_mem_nil, or_false] at hk
    rcases hk with rfl | rfl
    · have := ht _ _ _ e1; revert this; decide
    · have := ht _ _ _ e2; revert this; decide
  refine h.kept hm (fun hk => ht _ hk h.jblk.1) (fun hk => ht _ hk h.disk.jt.1) (fun hk => ht _ hk h.disk.jt.2) (fun k hk cs E f hc => ?_)
  simp only [List.mem_cons, List.not_mem_nil, or_false] at hk
  rcases hk with rfl | rfl
  · rw [e1] at hc; cases hc; decide
  · rw [e2] at hc; cases hc; decide
theorem own_mmod {w w' : World} {base mb jm b : Nat} {v : Value} {l : List ByteArray} {M : Mj} {R : Rk} (h : OwnR encStr 1 9 w base v l) (hM : MAt w mb jm b M R) (hm : Mod [jm, b] w w') : OwnR encStr 1 9 w' base v l := by
  obtain ⟨⟨lv, av, e1, _⟩, hd⟩ := hM
  obtain ⟨v0, e2⟩ := hd.cell
  refine h.kept hm (fun k hk hkm => ?_)
  simp only [List.mem_cons, List.not_mem_nil, or_false] at hkm
  rcases hkm with rfl | rfl
  · exact own_ne h e1 (by decide) k hk rfl
  · exact own_ne h e2 (by decide) k hk rfl
/-- records are put behind others that lie elsewhere -/
theorem MAt.grown {w0 w w' : World} {base mb jm b : Nat} {M : Mj} {R : Rk} {v v' : Value} {l : List ByteArray} (h : MAt w mb jm b M R) (hf : FreshL w0 w jm) (ho : OwnR encStr 1 9 w base v l) (hv : ∀ k, v.ownBlock = some k → k < w0.heap.size) (gr : Grew w v w' v') : MAt w' mb jm b M R := by
  obtain ⟨⟨lv, av, e1, e2, e3⟩, hd⟩ := h
  obtain ⟨c, lv2, f1, f2, f3⟩ := hf
  rw [e1] at f1
  simp only [Option.some.injEq, Obj.cells.injEq, and_true] at f1
  subst f1
  simp at f2
  subst f2
  obtain ⟨v0, eb⟩ := hd.cell
  refine ⟨⟨lv, av, gr.mod.heap e1 (fun hk => ?_), e2.kept gr.mod (fun k hk hkm => ?_), e3.kept gr.mod (fun k hk hkm => ?_)⟩, hd.kept gr.mod (fun hk => ?_) (fun k hk cs f hc => ?_)⟩
  · exact own_ne ho e1 (by decide) _ (mem_blk.1 hk) rfl
  · have h1 := f3 k hk
    have h2 := hv k (mem_blk.1 hkm)
    omega
  · obtain ⟨c2, hc2⟩ := ownsRow_cells ho (mem_blk.1 hkm)
    exact own_ne e3 hc2 (by decide) k hk rfl
  · exact own_ne ho eb (by decide) _ (mem_blk.1 hk) rfl
  · obtain ⟨c2, hc2⟩ := ownsRow_cells ho (mem_blk.1 hk)
    rw [hc] at hc2
    simp only [Option.some.injEq, Obj.cells.injEq] at hc2
    exact absurd hc2.2.1 (by decide)
theorem JAt.grown {w w' : World} {base base' j d m : Nat} {J : Jk} {D : Dk} {v v' : Value} {l : List ByteArray} (h : JAt w base j d m J D) (ho : OwnR encStr 1 9 w base' v l) (gr : Grew w v w' v') : JAt w' base j d m J D := by
  have hty : ∀ k ∈ blk v, ∃ c, w.heap[k]? = some (.cells c 9 (0, 0)) := fun k hk => by
    rw [mem_blk] at hk
    exact ownsRow_cells ho hk
  have hno : ∀ k, JT w k → k ∉ blk v := fun k ht hk => by
    obtain ⟨c, h1⟩ := hty k hk
    have := ht _ _ _ h1
    revert this; decide
  refine h.kept gr.mod (hno j h.jblk.1) (hno _ h.disk.jt.1) (hno _ h.disk.jt.2) (fun k hk cs E f hc => ?_)
  obtain ⟨c, h1⟩ := hty k hk
  rw [h1] at hc
  cases hc
  decide
/-- a disk's sectors, and the torn one, are bytes -/
structure Bytes8 (D : Dk) : Prop where
  sec : ∀ k, IsB (D.sec k)
  torn : IsB D.torn
theorem write_b8 {D : Dk} (h : Bytes8 D) (k : Int) {l : List Int} (hl : IsB l) : Bytes8 (D.write k l).2 := by
  have hlay : ∀ x : List Int, IsB x → ∀ y, IsB ((D.lay k x).sec y) := fun x hx y => by
    rw [lay_sec]; split
    · exact hx
    · exact h.sec y
  unfold Dk.write
  split
  · exact h
  · split
    · exact h
    · split
      · exact ⟨hlay _ h.torn, h.torn⟩
      · exact ⟨hlay _ hl, h.torn⟩
theorem jwrite_b8 {J : Jk} {D : Dk} (h : Bytes8 D) (k : Int) {l : List Int} (hl : IsB l) : Bytes8 (J.write D k l).2.2 := by
  unfold Jk.write
  split
  · exact h
  · exact write_b8 h k hl
theorem writes_b8 : ∀ (p : List (Int × List Int)) {J : Jk} {D : Dk}, Bytes8 D → (∀ x ∈ p, IsB x.2) → Bytes8 (J.writes D p).2.2
  | [], J, D, h, _ => h
  | x :: p, J, D, h, hp => by
    have h1 := jwrite_b8 (J := J) h x.1 (hp x List.mem_cons_self)
    unfold Jk.writes
    split
    · exact writes_b8 p h1 (fun y hy => hp y (List.mem_cons_of_mem _ hy))
    · exact h1
theorem append_b8 {J : Jk} {D : Dk} (h : Bytes8 D) {b : List Int} (hb : IsB b) : Bytes8 (J.append D b).2.2 := by
  have h1 := writes_b8 (J := J) (layPlan J.at_ (frameP 0 J.epoch (J.l.length + 1) b) (manyP b.length)) h (fun x hx => (layPlan_isM (frameP_isB (by omega) hb) x hx).1)
  unfold Jk.append
  split
  · exact h
  · split
    · exact h
    · split
      · exact h
      · split
        · exact h1
        · exact h1
theorem check_b8 {J : Jk} {D : Dk} (h : Bytes8 D) (hB : ∀ x ∈ J.l, IsB x) : Bytes8 (J.check D).2.2 := by
  have hA : Bytes8 (J.checkA D).2.2 := by
    unfold Jk.checkA
    split
    · exact jwrite_b8 h _ (isB_zeros 64)
    · exact writes_b8 _ h (fun x hx => (layPlan_isM (frameP_isB (by omega) (ckOwn_isB hB)) x hx).1)
  unfold Jk.check
  split
  · exact h
  · split
    · exact h
    · unfold Jk.checkB
      split
      · split
        · exact jwrite_b8 hA _ (superP_isB _)
        · exact jwrite_b8 hA _ (superP_isB _)
      · exact hA
/-- ahead of each call, no crash has come -/
structure LiveAt (w W : World) (base j b jm mb : Nat) (n : Int) (T : List Int) (i : Nat) (M : Mj) (R : Rk) (D : Dk) (av : Value) : Prop where
  inv : CrInv M.jk D
  live : Live D T
  same : Same D R
  num : D.n = n
  jat : JAt W base j (base + 1) base M.jk D
  mat : MAt W mb jm b M R
  own : OwnR encStr 1 9 W base av (M.l.map strOfNums)
  mod : Mod [] w W
  cnt : M.l.length ≤ i
  each : ∀ x ∈ M.l, x.length ≤ 3000 ∧ IsB x
  wr : 0 ≤ R.written ∧ R.written ≤ 4 + (i : Int) * 160
  rows : R.rows.length ≤ 4 + i * 160
  ask : M.asked.length ≤ 4 + i * 160
  secs : Bytes8 D
  mbw : mb ≤ W.heap.size
theorem LiveAt.kept0 {w W W' : World} {base j b jm mb : Nat} {n : Int} {T : List Int} {i : Nat} {M : Mj} {R : Rk} {D : Dk} {av : Value} (h : LiveAt w W base j b jm mb n T i M R D av) (m : Mod [] W W') : LiveAt w W' base j b jm mb n T i M R D av :=
  ⟨h.inv, h.live, h.same, h.num, h.jat.kept0 m, h.mat.kept0 m, h.own.kept0 m, h.mod.trans m, h.cnt, h.each, h.wr, h.rows, h.ask, h.secs, Nat.le_trans h.mbw m.size⟩
theorem LiveAt.jok {w W : World} {base j b jm mb : Nat} {n : Int} {T : List Int} {i : Nat} {M : Mj} {R : Rk} {D : Dk} {av : Value} (h : LiveAt w W base j b jm mb n T i M R D av) (hi : i ≤ 60) : JOk M.jk D := by
  have h1 := h.inv.lo
  have h2 := h.inv.hi
  obtain ⟨q1, q2, q3⟩ := halves h.inv.n0 h.inv.n1 M.jk.epoch
  have h3 := h.wr
  have h4 := h.same.written
  have h5 := h.cnt
  have h6 := h.inv.n1
  exact ⟨h.inv.n0, h.inv.n1, by have := h.inv.e0; omega, h.inv.e1, by omega, by omega, by omega, by omega, by show M.l.length ≤ _; omega⟩
theorem LiveAt.mok {w W : World} {base j b jm mb : Nat} {n : Int} {T : List Int} {i : Nat} {M : Mj} {R : Rk} {D : Dk} {av : Value} (h : LiveAt w W base j b jm mb n T i M R D av) (hi : i ≤ 60) : MOk M R := by
  have hj := h.jok hi
  have hn := h.same.n
  have h3 := h.wr
  have h5 := h.rows
  have h6 := h.ask
  exact ⟨by rw [← hn]; exact hj.n0, by rw [← hn]; exact hj.n1, hj.e0, hj.e1, hj.a0, hj.a1, h3.1, by omega, hj.l0, by omega, by omega⟩
theorem LiveAt.ownl {w W : World} {base j b jm mb : Nat} {n : Int} {T : List Int} {i : Nat} {M : Mj} {R : Rk} {D : Dk} {av : Value} (h : LiveAt w W base j b jm mb n T i M R D av) (hi : i ≤ 60) : (ckOwn M.l).length ≤ 67108864 := by
  have h1 := ckOwn_bound M.l 3000 (fun x hx => (h.each x hx).1)
  have h2 := h.cnt
  have : M.l.length * (3000 + 4) ≤ 60 * 3004 := Nat.mul_le_mul (by omega) (by omega)
  omega
/-- behind a crash: what was acknowledged, what was in flight -/
structure DeadAt (w W : World) (base b jm mb : Nat) (n : Int) (T : List Int) (M : Mj) (R : Rk) (D : Dk) (av fv : Value) (A F : List ByteArray) (fl : Bool) : Prop where
  ok : ∃ okp : List (List Int) → Prop, Crash D M T okp ∧ ∀ l, okp l → l.map strOfNums = A ∨ (fl = true ∧ l.map strOfNums = F)
  same : Same D R
  num : D.n = n
  disk : DiskAt W (base + 1) base D
  mat : MAt W mb jm b M R
  own : OwnR encStr 1 9 W base av A
  flt : (fl = false ∧ fv = .slice none 0 0) ∨ (fl = true ∧ OwnR encStr 1 9 W base fv F ∧ F ≠ [])
  mod : Mod [] w W
  wr : 0 ≤ R.written ∧ R.written ≤ 20000
  rows : R.rows.length ≤ 20000
  ask : M.asked.length ≤ 20000
  secs : Bytes8 D
  many : A.length ≤ 1000 ∧ F.length ≤ 1000
  small : (∀ s ∈ A, s.size ≤ 3000) ∧ ∀ s ∈ F, s.size ≤ 3000
theorem DeadAt.kept0 {w W W' : World} {base b jm mb : Nat} {n : Int} {T : List Int} {M : Mj} {R : Rk} {D : Dk} {av fv : Value} {A F : List ByteArray} {fl : Bool} (h : DeadAt w W base b jm mb n T M R D av fv A F fl) (m : Mod [] W W') : DeadAt w W' base b jm mb n T M R D av fv A F fl :=
  ⟨h.ok, h.same, h.num, h.disk.kept m (by simp) (by simp), h.mat.kept0 m, h.own.kept0 m, by
    rcases h.flt with h1 | ⟨h1, h2, h3⟩
    · exact .inl h1
    · exact .inr ⟨h1, h2.kept0 m, h3⟩, h.mod.trans m, h.wr, h.rows, h.ask, h.secs, h.many, h.small⟩
end Go.Proofs.Ytnjfgbbdfdoccaa
namespace Go.Proofs.Ytnjfgbbdfdoccaa
open Go.RowKit Go.ChangeMaps
set_option linter.unusedSimpArgs false
set_option linter.unusedVariables false
set_option maxRecDepth 20000

/-- between the program's call and the document's -/
structure MidC (w w1 : World) (base j b jm mb : Nat) (J' : Jk) (D' : Dk) (M : Mj) (R : Rk) (av : Value) : Prop where
  jat : JAt w1 base j (base + 1) base J' D'
  mat : MAt w1 mb jm b M R
  own : OwnR encStr 1 9 w1 base av (M.l.map strOfNums)
  mod : Mod [] w w1
  mbw : mb ≤ w1.heap.size
theorem MidC.kept0 {w w1 w2 : World} {base j b jm mb : Nat} {J' : Jk} {D' : Dk} {M : Mj} {R : Rk} {av : Value} (h : MidC w w1 base j b jm mb J' D' M R av) (m : Mod [] w1 w2) : MidC w w2 base j b jm mb J' D' M R av :=
  ⟨h.jat.kept0 m, h.mat.kept0 m, h.own.kept0 m, h.mod.trans m, Nat.le_trans h.mbw m.size⟩
theorem str_small {l : List (List Int)} (h : ∀ x ∈ l, x.length ≤ 3000) : ∀ s ∈ l.map strOfNums, s.size ≤ 3000 := fun s hs => by
  obtain ⟨x, hx, rfl⟩ := List.mem_map.1 hs
  rw [strs_len]; exact h x hx
theorem append_tie {M : Mj} {R : Rk} {D : Dk} (h : CrInv M.jk D) (hs : Same D R) {q : List Int} : (M.append R q).1 = (M.jk.append D q).1 ∨ (M.jk.append D q).1 ≠ 0 := by
  have hj : M.dead = false := h.dead
  have hle : M.left R = leftP M.jk D := by unfold Mj.left leftP Mj.jk; rw [hs.n]
  have hre : mroomB M R q.length = roomB M.jk D q.length := by unfold mroomB roomB; rw [hle]
  by_cases c1 : q.length = 0 ∨ 65536 < q.length
  · right
    unfold Jk.append; rw [if_neg (by show ¬ M.dead = true; rw [hj]; simp), if_pos c1]; simp
  · by_cases c2 : roomB M.jk D q.length = false
    · right
      unfold Jk.append; rw [if_neg (by show ¬ M.dead = true; rw [hj]; simp), if_neg c1, if_pos c2]; simp
    · obtain ⟨t1, _, _⟩ := does_tie (layPlan M.at_ (frameP 0 M.epoch (M.l.length + 1) q) (manyP q.length)) (J := M.jk) hj hs
      by_cases h0 : (M.jk.writes D (layPlan M.at_ (frameP 0 M.epoch (M.l.length + 1) q) (manyP q.length))).1 = 0
      · left
        unfold Jk.append Mj.append
        rw [if_neg (by rw [hj]; simp), if_neg c1, if_neg (by rw [hre]; exact c2), if_pos (by rw [← t1]; exact h0)]
        rw [if_neg (by show ¬ M.dead = true; rw [hj]; simp), if_neg c1, if_neg c2]
        rw [show (M.jk.writes D (layPlan M.jk.at_ (frameP 0 M.jk.epoch (M.jk.l.length + 1) q) (manyP q.length))).1 = 0 from h0]
        rfl
      · right
        unfold Jk.append
        rw [if_neg (by show ¬ M.dead = true; rw [hj]; simp), if_neg c1, if_neg c2]
        rw [if_neg (show ¬ (M.jk.writes D (layPlan M.jk.at_ (frameP 0 M.jk.epoch (M.jk.l.length + 1) q) (manyP q.length))).1 = 0 from h0)]
        exact h0
section
variable {w W : World} {base j b jm mb : Nat} {n : Int} {T : List Int} {i : Nat} {M : Mj} {R : Rk} {D : Dk} {av : Value}
theorem LiveAt.call {J' : Jk} {D' : Dk} (h : LiveAt w W base j b jm mb n T i M R D av) (hb : w.heap.size ≤ base) {w1 : World} (hj : JAt w1 base j (base + 1) base J' D') (hm : JMod base W w1) : MidC w w1 base j b jm mb J' D' M R av :=
  ⟨hj, h.mat.jmod hm, hm.own h.own (by decide), JMod.toNil h.mod hb hm, Nat.le_trans h.mbw hm.size⟩
theorem live_check1 (h : LiveAt w W base j b jm mb n T i M R D av) (hi : i < 60) (hb : w.heap.size ≤ base) :
    Calls Try.prog 13 #[.pointer (some ⟨j, 0, none⟩)] W fun e w1 => e = .returned (.int .i64 (M.jk.check D).1) ∧ MidC w w1 base j b jm mb (M.jk.check D).2.1 (M.jk.check D).2.2 M R av := by
  refine (jCheckpoint_at h.jat (h.jok (by omega)) (h.ownl (by omega)) (by have := h.jat.lt.2.2; omega) ⟨by omega, Nat.le_refl _⟩).mono ?_
  rintro e w1 ⟨rfl, hj, hm⟩
  exact ⟨rfl, h.call hb hj hm⟩
/-- a call is over -/
def OutC (w w2 : World) (base j b jm mb : Nat) (n : Int) (T : List Int) (i : Nat) (c : Int) (av : Value) : Prop :=
  (c ≠ 16 ∧ ∃ M R D, LiveAt w w2 base j b jm mb n T (i + 1) M R D av) ∨ (c = 16 ∧ ∃ M R D A, DeadAt w w2 base b jm mb n T M R D av (.slice none 0 0) A [] false)
theorem live_check2 (h : LiveAt w W base j b jm mb n T i M R D av) (hi : i < 60) (hn : n ≤ 300) (hgb : w.heap.size ≤ b ∧ w.heap.size ≤ jm) {w1 : World} (m : MidC w w1 base j b jm mb (M.jk.check D).2.1 (M.jk.check D).2.2 M R av) :
    Calls Try.prog 20 #[.pointer (some ⟨jm, 0, none⟩)] w1 fun e w2 => (∃ x, e = .returned x) ∧ OutC w w2 base j b jm mb n T i (M.jk.check D).1 av := by
  have hBl : ∀ x ∈ M.l, IsB x := fun x hx => (h.each x hx).2
  refine (mjCheck_at m.mat (h.mok (by omega)) (h.ownl (by omega)) hBl m.mbw).mono ?_
  rintro e w2 ⟨rfl, hM, hmm⟩
  refine ⟨⟨_, rfl⟩, ?_⟩
  have hj2 := m.jat.mmod m.mat hmm
  have ho2 := own_mmod m.own m.mat hmm
  have hmod2 : Mod [] w w2 := Mod.into' m.mod hmm (fun k hk => by
    simp only [List.mem_cons, List.not_mem_nil, or_false] at hk
    rcases hk with rfl | rfl
    · exact .inl hgb.2
    · exact .inl hgb.1)
  have hmb := Nat.le_trans m.mbw hmm.size
  obtain ⟨b1, b2, b3, b4⟩ := check_bound M R (by rw [← h.same.n, h.num]; exact hn)
  have hw := h.wr
  have hr := h.rows
  have hk := h.ask
  have hsec := check_b8 (J := M.jk) h.secs hBl
  rcases check_out h.inv h.live h.same hBl (h.ownl (by omega)) (fun k => sec_length hj2.disk k) with ⟨o1, o2, o3, o4, o5, o6, o7⟩ | ⟨o1, o2, o3⟩ | ⟨o1, o2, o3, o4⟩
  · refine .inl ⟨by rw [o1]; decide, (M.check R).2.1, (M.check R).2.2, (M.jk.check D).2.2, ⟨o2, o4, o7, o5.trans h.num, by rw [o6]; exact hj2, hM, by rw [o3]; exact ho2, hmod2, by rw [o3]; have := h.cnt; omega, by rw [o3]; exact h.each, ⟨by omega, by omega⟩, by omega, by omega, hsec, hmb⟩⟩
  · have e1 : (M.jk.check D).2.1 = M.jk := by rw [o2]
    have e2 : (M.jk.check D).2.2 = D := by rw [o2]
    have e3 : (M.check R).2.1 = M := by rw [o3]
    have e4 : (M.check R).2.2 = R := by rw [o3]
    rw [e1, e2] at hj2
    rw [e3, e4] at hM
    refine .inl ⟨by rw [o1]; decide, M, R, D, ⟨h.inv, h.live, h.same, h.num, hj2, hM, ho2, hmod2, by have := h.cnt; omega, h.each, ⟨by omega, by omega⟩, by omega, by omega, h.secs, hmb⟩⟩
  · refine .inr ⟨o1, (M.check R).2.1, (M.check R).2.2, (M.jk.check D).2.2, M.l.map strOfNums, ⟨⟨_, o2, fun l hl => .inl (by rw [hl])⟩, o3, o4.trans h.num, hj2.disk, hM, ho2, .inl ⟨rfl, rfl⟩, hmod2, ⟨by omega, by omega⟩, by omega, by omega, hsec, ⟨by rw [List.length_map]; have := h.cnt; omega, by simp⟩, ⟨str_small (fun x hx => (h.each x hx).1), by simp⟩⟩⟩
theorem live_append1 (h : LiveAt w W base j b jm mb n T i M R D av) (hi : i < 60) (hb : w.heap.size ≤ base) {a : Option Addr} {ql c : Nat} {q : List Int} (hq : RowAt enc8 W (.slice a ql c) q) (hql : q.length = ql) (hl : q.length ≤ 3000) (hB : IsB q) (hbl : q ≠ [] → ∀ bb o k c', (Value.slice a ql c) = .slice (some ⟨bb, o, none⟩) k c' → bb < base) :
    Calls Try.prog 11 #[.pointer (some ⟨j, 0, none⟩), .slice a ql c] W fun e w1 => e = .returned (.int .i64 (M.jk.append D q).1) ∧ MidC w w1 base j b jm mb (M.jk.append D q).2.1 (M.jk.append D q).2.2 M R av ∧ JMod base W w1 := by
  by_cases hne : q = []
  · have h0 : ql = 0 := by rw [← hql, hne]; rfl
    subst h0
    have hd : M.jk.dead = false := h.inv.dead
    refine (jAppend_nil h.jat hd a c).mono ?_
    rintro e w1 ⟨rfl, rfl⟩
    have e : M.jk.append D q = (2, M.jk, D) := by
      unfold Jk.append; rw [if_neg (by rw [hd]; simp), if_pos (.inl (by rw [hne]; rfl))]
    rw [e]
    exact ⟨rfl, h.call hb h.jat (JMod.refl _ _), JMod.refl _ _⟩
  · have hge := h.jat.ge
    refine (jAppend_at h.jat (h.jok (by omega)) hq (by omega) hB (fun bb o k c' e => ?_) (by have := h.jat.lt.2.2; omega) ⟨by omega, Nat.le_refl _⟩).mono ?_
    · have := hbl hne bb o k c' e
      omega
    · rintro e w1 ⟨rfl, hj, hm⟩
      exact ⟨rfl, h.call hb hj hm, hm⟩
/-- a record was handed in -/
def OutA (w w2 : World) (base j b jm mb : Nat) (n : Int) (T : List Int) (i : Nat) (c : Int) (av : Value) (ls : List (List Int)) (q : List Int) : Prop :=
  (c = 0 ∧ OwnR encStr 1 9 w2 base av (ls.map strOfNums) ∧ base ≤ w2.heap.size ∧ ls.length < 1000 ∧ ∀ w3 av', OwnR encStr 1 9 w3 base av' ((ls ++ [q]).map strOfNums) → Grew w2 av w3 av' → ∃ M R D, LiveAt w w3 base j b jm mb n T (i + 1) M R D av') ∨
  ((c = 2 ∨ c = 7) ∧ ∃ M R D, LiveAt w w2 base j b jm mb n T (i + 1) M R D av) ∨
  (c = 16 ∧ OwnR encStr 1 9 w2 base av (ls.map strOfNums) ∧ base ≤ w2.heap.size ∧ ls.length < 1000 ∧ ∀ w3 fv, Mod [] w2 w3 → OwnR encStr 1 9 w3 base fv ((ls ++ [q]).map strOfNums) → ∃ M R D, DeadAt w w3 base b jm mb n T M R D av fv (ls.map strOfNums) ((ls ++ [q]).map strOfNums) true)
theorem live_append2 (h : LiveAt w W base j b jm mb n T i M R D av) (hi : i < 60) (hbb : w.heap.size ≤ base) (hgb : w.heap.size ≤ b ∧ w.heap.size ≤ jm) {q : List Int} (hl : q.length ≤ 3000) (hB : IsB q) {w1 : World} (m : MidC w w1 base j b jm mb (M.jk.append D q).2.1 (M.jk.append D q).2.2 M R av) :
    Calls Try.prog 21 #[.pointer (some ⟨jm, 0, none⟩), .string (strOfNums q)] w1 fun e w2 => (∃ x, e = .returned x) ∧ OutA w w2 base j b jm mb n T i (M.jk.append D q).1 av M.l q ∧ Mod [] w w2 ∧ Mod [jm, b] w1 w2 := by
  refine (mjAppend_at m.mat (h.mok (by omega)) q hB (by omega) m.mbw).mono ?_
  rintro e w2 ⟨rfl, hM, hmm, hF⟩
  refine ⟨⟨_, rfl⟩, ?_, Mod.into' m.mod hmm (fun k hk => by
    simp only [List.mem_cons, List.not_mem_nil, or_false] at hk
    rcases hk with rfl | rfl
    · exact .inl hgb.2
    · exact .inl hgb.1), hmm⟩
  have hj2 := m.jat.mmod m.mat hmm
  have ho2 := own_mmod m.own m.mat hmm
  have hmod2 : Mod [] w w2 := Mod.into' m.mod hmm (fun k hk => by
    simp only [List.mem_cons, List.not_mem_nil, or_false] at hk
    rcases hk with rfl | rfl
    · exact .inl hgb.2
    · exact .inl hgb.1)
  have hmb := Nat.le_trans m.mbw hmm.size
  have hbs : base ≤ w2.heap.size := by have := hj2.lt.2.2; omega
  obtain ⟨b1, b2, b3, b4⟩ := append_bound M R q hl
  have hw := h.wr
  have hr := h.rows
  have hk := h.ask
  have hcn := h.cnt
  have hsec := append_b8 (J := M.jk) h.secs hB
  have heach : ∀ x ∈ M.l ++ [q], x.length ≤ 3000 ∧ IsB x := fun x hx => by
    rcases List.mem_append.1 hx with hx | hx
    · exact h.each x hx
    · simp at hx; subst hx; exact ⟨hl, hB⟩
  rcases append_out h.inv h.live h.same hB (by omega) (fun k => sec_length hj2.disk k) with ⟨o1, o2, o3, o4, o5, o6, o7⟩ | ⟨o1, o2, o3⟩ | ⟨o1, o2, o3, o4⟩
  · have h1 : (M.append R q).1 = 0 := by
      rcases append_tie h.inv h.same (q := q) with e | e
      · rw [e]; exact o1
      · exact absurd o1 e
    refine .inl ⟨o1, ho2, hbs, by omega, fun w3 av' ho3 gr => ⟨(M.append R q).2.1, (M.append R q).2.2, (M.jk.append D q).2.2, ⟨o2, o4, o7, o5.trans h.num, by rw [o6]; exact hj2.grown ho2 gr, hM.grown (hF h1) ho2 (fun k hk => (World.ownsRow.lt m.own k hk).2) gr, by rw [o3]; exact ho3, ?_, by rw [o3, List.length_append]; simp; omega, by rw [o3]; exact heach, ⟨by omega, by omega⟩, by omega, by omega, hsec, Nat.le_trans hmb gr.mod.size⟩⟩⟩
    exact Mod.into' hmod2 gr.mod (fun k hk => .inl (by have := (World.ownsRow.lt ho2 k (mem_blk.1 hk)).1; omega))
  · have e1 : (M.jk.append D q).2.1 = M.jk := by rw [o2]
    have e2 : (M.jk.append D q).2.2 = D := by rw [o2]
    have e3 : (M.append R q).2.1 = M := by rw [o3]
    have e4 : (M.append R q).2.2 = R := by rw [o3]
    rw [e1, e2] at hj2
    rw [e3, e4] at hM
    exact .inr (.inl ⟨o1, M, R, D, ⟨h.inv, h.live, h.same, h.num, hj2, hM, ho2, hmod2, by omega, h.each, ⟨by omega, by omega⟩, by omega, by omega, h.secs, hmb⟩⟩)
  · refine .inr (.inr ⟨o1, ho2, hbs, by omega, fun w3 fv hm3 hof => ⟨(M.append R q).2.1, (M.append R q).2.2, (M.jk.append D q).2.2, ⟨⟨_, o2, fun l hl => ?_⟩, o3, o4.trans h.num, hj2.disk.kept hm3 (by simp) (by simp), hM.kept0 hm3, ho2.kept0 hm3, .inr ⟨rfl, hof, by simp⟩, hmod2.trans hm3, ⟨by omega, by omega⟩, by omega, by omega, hsec, ⟨by rw [List.length_map]; omega, by rw [List.length_map, List.length_append]; simp; omega⟩, ⟨str_small (fun x hx => (h.each x hx).1), str_small (fun x hx => (heach x hx).1)⟩⟩⟩⟩)
    rcases hl with rfl | rfl
    · exact .inl rfl
    · exact .inr ⟨rfl, rfl⟩
end
end Go.Proofs.Ytnjfgbbdfdoccaa
namespace Go.Proofs.Ytnjfgbbdfdoccaa
open Go.RowKit Go.ChangeMaps
set_option linter.unusedSimpArgs false
set_option linter.unusedVariables false
set_option maxRecDepth 20000

theorem calm_puts : ∀ (p : List (Int × List Int)) {J : Jk} {D : Dk}, Calm J D → (∀ x ∈ p, 0 ≤ x.1 ∧ x.1 < D.n ∧ x.2.length = 64) → ∀ k, (J.writes D p).2.2.sec k = (D.puts p).sec k
  | [], J, D, _, _, k => rfl
  | x :: p, J, D, c, h, k => by
    obtain ⟨a0, a1, a2⟩ := h x List.mem_cons_self
    obtain ⟨w0, w1, w2, w3⟩ := write_calm c a0 a1 a2
    have hby : (J.write D x.1 x.2).2.2.by_ = (D.lay x.1 x.2).by_ := by
      have ha : D.asked x.1 = 0 := by
        unfold Dk.asked
        rw [c.down, if_neg (by decide), if_neg (by omega)]
      unfold Jk.write
      rw [if_neg (by rw [c.dead]; simp)]
      unfold Dk.write
      rw [if_neg (by rw [ha]; simp), if_neg (by omega), if_neg (by rw [c.set]; simp)]
    have hq : ∀ (q : List (Int × List Int)) (A B : Dk), A.by_ = B.by_ → (A.puts q).by_ = (B.puts q).by_ := by
      intro q
      induction q with
      | nil => intro A B h; exact h
      | cons y q ihq =>
        intro A B h
        refine ihq _ _ ?_
        show (Dk.lay A y.1 y.2).by_ = (Dk.lay B y.1 y.2).by_
        unfold Dk.lay
        dsimp only
        rw [h]
    unfold Jk.writes
    rw [if_pos w0, w1, calm_puts p w2 (fun y hy => by rw [w3]; exact h y (List.mem_cons_of_mem _ hy)) k]
    unfold Dk.sec
    rw [hq p _ (D.lay x.1 x.2) hby]
    rfl
theorem fmt_inv {n : Int} (h0 : 8 ≤ n) (h1 : n ≤ 65536) : CrInv fmtJ (fmtJ.writes (Dk.new n) fmtPlan).2.2 := by
  obtain ⟨f0, f1, f2, f3⟩ := fmt_room h0 h1
  have hc : Calm fmtJ (Dk.new n) := ⟨rfl, rfl, rfl⟩
  have hn : (Dk.new n).n = n := rfl
  have hs := calm_puts fmtPlan hc (fun x hx => by
    unfold fmtPlan at hx
    rw [hn]
    simp only [List.mem_cons, List.not_mem_nil, or_false] at hx
    rcases hx with rfl | rfl | rfl | rfl <;> exact ⟨by dsimp only; omega, by dsimp only; omega, rfl⟩)
  have hp : ∀ k, ((Dk.new n).puts fmtPlan).sec k = if k = 1 then superP 1 else if k = 2 then zeros64 else if k = 1 then zeros64 else if k = 0 then zeros64 else (Dk.new n).sec k := fun k => by
    show (Dk.lay (Dk.lay (Dk.lay (Dk.lay (Dk.new n) 0 zeros64) 1 zeros64) 2 zeros64) 1 (superP 1)).sec k = _
    rw [lay_sec, lay_sec, lay_sec, lay_sec]
  have he : fmtJ.epoch = 1 := rfl
  have ha : fmtJ.at_ = 2 := rfl
  have hb1 : beginP n 1 = 2 := beginP_one n
  obtain ⟨q1, q2, q3⟩ := halves h0 h1 1
  refine ⟨by rw [f3]; exact h0, by rw [f3]; exact h1, by rw [he]; decide, by rw [he]; decide, ?_, ?_, ?_, ?_, ?_, ?_, ?_, by show 0 ≤ 1000; omega, rfl⟩
  · rw [f3, he, ha, hb1]; decide
  · rw [f3, he, ha, hb1]; omega
  · rw [he, hs, hp]; rfl
  · rw [he, hs, hp, show ((1 : Int) + 1) % 2 = 0 from rfl, if_neg (by decide), if_neg (by decide), if_neg (by decide), if_pos rfl, epoch_zero]; decide
  · rw [f3, he, ha, hb1]; exact .refl _ _
  · rw [ha, hs, hp, if_neg (by decide), if_pos rfl]
  · intro x hx; cases hx
theorem crInv_sec {J : Jk} {D E : Dk} (h : CrInv J D) (hn : E.n = D.n) (hs : ∀ k, E.sec k = D.sec k) : CrInv J E := by
  have hr := h.reads.congr (E := E) hn.symm (fun k _ _ => (hs k).symm)
  rw [← hn] at hr
  exact ⟨by rw [hn]; exact h.n0, by rw [hn]; exact h.n1, h.e0, h.e1, by rw [hn]; exact h.lo, by rw [hn]; exact h.hi, by rw [hs]; exact h.sup, by rw [hs]; exact h.old, hr, by rw [hs]; exact h.zero, h.each, h.many, h.dead⟩
/-- the first state -/
theorem live_first {w W : World} {base j b jm mb : Nat} {n : Int} {T : List Int} (h0 : 8 ≤ n) (h1 : n ≤ 65536) (after : Int) (ha : 0 ≤ after) (hT : T.length = 64) (hTb : IsB T)
    (hj : JAt W base j (base + 1) base (fmtJ.writes (Dk.new n) fmtPlan).2.1 ((fmtJ.writes (Dk.new n) fmtPlan).2.2.crash after T).2) (hM : MAt W mb jm b (fmtM.done (Rk.new n) fmtPlan) (((Rk.new n).does fmtPlan).2.crash after T).2) (hm : Mod [] w W) (hmb : mb ≤ W.heap.size) :
    LiveAt w W base j b jm mb n T 0 (fmtM.done (Rk.new n) fmtPlan) (((Rk.new n).does fmtPlan).2.crash after T).2 ((fmtJ.writes (Dk.new n) fmtPlan).2.2.crash after T).2 (.slice none 0 0) := by
  obtain ⟨f0, f1, f2, f3⟩ := fmt_room h0 h1
  obtain ⟨t1, t2, t3⟩ := does_tie fmtPlan (J := fmtJ) (D := Dk.new n) (R := Rk.new n) rfl (Same.new n (by omega))
  have hd0 : ((Rk.new n).does fmtPlan).1 = 0 := by rw [← t1]; exact f0
  have hjk : (fmtM.done (Rk.new n) fmtPlan).jk = fmtJ := by
    unfold Mj.done Mj.jk
    dsimp only
    rw [hd0]
    rfl
  rw [f2] at hj
  have hdn := f1.calm.down
  have hask : (fmtJ.writes (Dk.new n) fmtPlan).2.2.asked 0 = 0 := by
    unfold Dk.asked
    rw [hdn, if_neg (by decide), if_neg (by rw [f3]; omega)]
  have hc : (fmtJ.writes (Dk.new n) fmtPlan).2.2.crash after T = (0, { (fmtJ.writes (Dk.new n) fmtPlan).2.2 with set := true, after := after, torn := T }) := by
    unfold Dk.crash
    rw [if_neg (by rw [hask]; simp), if_neg (by omega)]
  have hsm := (t2.crash after T).2
  have hb := Rk.does_bound fmtPlan (Rk.new n)
  have hl4 : fmtPlan.length = 4 := rfl
  rw [hl4] at hb
  have hdb := done_bound fmtM (Rk.new n) fmtPlan
  rw [hl4] at hdb
  have hcw := written_crash ((Rk.new n).does fmtPlan).2 after T
  have hcr := rows_crash ((Rk.new n).does fmtPlan).2 after T
  have hrn : (Rk.new n).written = 0 := rfl
  have hrr : (Rk.new n).rows.length = 0 := rfl
  have hfa : fmtM.asked.length = 0 := rfl
  have hsec := fmt_secs h0 h1
  refine ⟨?_, ?_, hsm, ?_, by rw [hjk]; exact hj, hM, OwnR.nil_ _ _, hm, (by show 0 ≤ 0; omega), (fun x hx => by cases hx), ⟨by omega, by omega⟩, by rw [hcr]; omega, by omega, ?_, hmb⟩
  · rw [hjk]
    exact crInv_sec (fmt_inv h0 h1) (by rw [hc]) (fun k => by rw [hc]; rfl)
  · rw [hc]; exact ⟨hdn, rfl, ha, rfl⟩
  · rw [hc]; exact f3
  · rw [hc]; exact ⟨fun k => hsec.sec k, hTb⟩
/-- ahead of the last look -/
structure TailAt (w W : World) (base : Nat) (n : Int) (D : Dk) (av fv : Value) (A F : List ByteArray) (fl : Bool) : Prop where
  disk : DiskAt W (base + 1) base D
  num : D.n = n
  pos : 0 < epsP D
  got : (openJ D).l.map strOfNums = A ∨ (fl = true ∧ (openJ D).l.map strOfNums = F)
  own : OwnR encStr 1 9 W base av A
  flt : (fl = false ∧ fv = .slice none 0 0) ∨ (fl = true ∧ OwnR encStr 1 9 W base fv F ∧ F ≠ [])
  mod : Mod [] w W
  wr : 0 ≤ D.written ∧ D.written ≤ 20000
  secs : ∀ k, IsB (D.sec k)
  many : A.length ≤ 1000 ∧ F.length ≤ 1000
  small : (∀ s ∈ A, s.size ≤ 3000) ∧ ∀ s ∈ F, s.size ≤ 3000
theorem TailAt.kept0 {w W W' : World} {base : Nat} {n : Int} {D : Dk} {av fv : Value} {A F : List ByteArray} {fl : Bool} (h : TailAt w W base n D av fv A F fl) (m : Mod [] W W') : TailAt w W' base n D av fv A F fl :=
  ⟨h.disk.kept m (by simp) (by simp), h.num, h.pos, h.got, h.own.kept0 m, by
    rcases h.flt with h1 | ⟨h1, h2, h3⟩
    · exact .inl h1
    · exact .inr ⟨h1, h2.kept0 m, h3⟩, h.mod.trans m, h.wr, h.secs, h.many, h.small⟩
theorem TailAt.lens {w W : World} {base : Nat} {n : Int} {D : Dk} {av fv : Value} {A F : List ByteArray} {fl : Bool} (h : TailAt w W base n D av fv A F fl) : (openJ D).l.length ≤ 1000 ∧ ∀ x ∈ (openJ D).l, x.length ≤ 3000 := by
  have key : ∀ B : List ByteArray, (openJ D).l.map strOfNums = B → B.length ≤ 1000 → (∀ s ∈ B, s.size ≤ 3000) → (openJ D).l.length ≤ 1000 ∧ ∀ x ∈ (openJ D).l, x.length ≤ 3000 := fun B hB h1 h2 => by
    refine ⟨by rw [← hB, List.length_map] at h1; exact h1, fun x hx => ?_⟩
    have := h2 (strOfNums x) (by rw [← hB]; exact List.mem_map_of_mem hx)
    rwa [strs_len] at this
  rcases h.got with g | ⟨_, g⟩
  · exact key A g h.many.1 h.small.1
  · exact key F g h.many.2 h.small.2
theorem disk_up {w : World} {d m : Nat} {D : Dk} : (({ D with down := false } : Dk).n = D.n) ∧ ∀ k, ({ D with down := false } : Dk).sec k = D.sec k := ⟨rfl, fun _ => rfl⟩
/-- no crash has come: what is found -/
theorem LiveAt.tail {w W W' : World} {base j b jm mb : Nat} {n : Int} {T : List Int} {i : Nat} {M : Mj} {R : Rk} {D : Dk} {av : Value} (h : LiveAt w W base j b jm mb n T i M R D av) (hi : i ≤ 60) (hb : w.heap.size ≤ base) (hd : DiskAt W' (base + 1) base { D with down := false }) (hm : Mod [base + 1] W W') : TailAt w W' base n { D with down := false } av (.slice none 0 0) (M.l.map strOfNums) [] false := by
  have e : ({ D with down := false } : Dk) = D := by
    have := h.live.down
    cases D; simp at this; subst this; rfl
  rw [e] at hd ⊢
  have hjo := h.jok hi
  have hw := h.wr
  have hsw := h.same.written
  obtain ⟨o1, o2⟩ := inv_open h.inv ⟨⟨by omega, by omega⟩, h.secs.sec, fun k => sec_length h.jat.disk k⟩
  refine ⟨hd, h.num, o1, .inl (by rw [o2]; rfl), h.own.kept hm (fun k hk hkm => ?_), .inl ⟨rfl, rfl⟩, Mod.into' h.mod hm (fun k hk => .inl (by simp at hk; omega)), ⟨by omega, by omega⟩, h.secs.sec, ⟨by rw [List.length_map]; have := h.cnt; omega, by simp⟩, ⟨str_small (fun x hx => (h.each x hx).1), by simp⟩⟩
  simp only [List.mem_singleton] at hkm
  exact own_ne h.own h.jat.disk.blk (by decide) k hk hkm
/-- a crash has come: what is found, if it is what the document finds with noughts or with the write -/
theorem DeadAt.tail {w W W' : World} {base b jm mb : Nat} {n : Int} {T : List Int} {M : Mj} {R : Rk} {D : Dk} {av fv : Value} {A F : List ByteArray} {fl : Bool} (h : DeadAt w W base b jm mb n T M R D av fv A F fl) (hb : w.heap.size ≤ base) (hp : 0 < epsP D) (hg : (openJ D).l.map strOfNums = A ∨ (fl = true ∧ (openJ D).l.map strOfNums = F)) (hd : DiskAt W' (base + 1) base { D with down := false }) (hm : Mod [base + 1] W W') : TailAt w W' base n { D with down := false } av fv A F fl := by
  obtain ⟨u1, u2⟩ := open_eq (D := D) (E := { D with down := false }) rfl (fun k => rfl)
  have hw := h.wr
  have hsw := h.same.written
  have hblk : ∀ {v : Value} {l : List ByteArray}, OwnR encStr 1 9 W base v l → OwnR encStr 1 9 W' base v l := fun ho => ho.kept hm (fun k hk hkm => by
    simp only [List.mem_singleton] at hkm
    exact own_ne ho h.disk.blk (by decide) k hk hkm)
  exact ⟨hd, h.num, by rw [u1]; exact hp, by rw [u2]; exact hg, hblk h.own, by
    rcases h.flt with h1 | ⟨h1, h2, h3⟩
    · exact .inl h1
    · exact .inr ⟨h1, hblk h2, h3⟩, Mod.into' h.mod hm (fun k hk => .inl (by simp at hk; omega)), ⟨by show 0 ≤ D.written; omega, by show D.written ≤ _; omega⟩, h.secs.sec, h.many, h.small⟩
/-- what the document's disk holds -/
theorem dead_held {w W : World} {base b jm mb : Nat} {n : Int} {T : List Int} {M : Mj} {R : Rk} {D : Dk} {av fv : Value} {A F : List ByteArray} {fl : Bool} (h : DeadAt w W base b jm mb n T M R D av fv A F fl) (h8 : 8 ≤ n) (h300 : n ≤ 300) {k : Int} (k0 : 0 ≤ k) (k1 : k < D.n) {X : List Int} (hX : X.length = 64) (hXb : IsB X) :
    Calls Try.prog 22 #[.pointer (some ⟨b, 0, none⟩), .int .i64 k, .string (strOfNums X)] W (HeldRet W (heldD D k X)) := by
  have hn := h.same.n
  have hnum := h.num
  have hw := h.wr
  have hr := h.rows
  exact held_at h.mat.disk ⟨by omega, by omega⟩ h.same h.secs.sec (fun k => sec_length h.disk k) (by omega) ⟨by omega, by omega⟩ k k0 (by omega) X hX hXb
theorem heldD_wok {D : Dk} {k : Int} {X : List Int} (k0 : 0 ≤ k) (k1 : k < D.n) (hX : X.length = 64) (hXb : IsB X) (hs : ∀ k, IsB (D.sec k)) (h64 : ∀ k, (D.sec k).length = 64) (hw : 0 ≤ D.written ∧ D.written ≤ 20000) : WOk (heldD D k X) := by
  obtain ⟨s1, s2, s3⟩ := heldD_sec D k X k0 k1 hX
  have hwr := D.calm.write_same k X
  have e : D.calm.written = D.written := rfl
  rw [e] at hwr
  refine ⟨⟨?_, ?_⟩, fun y => by rw [s3]; split; exact hXb; exact hs y, fun y => by rw [s3]; split; exact hX; exact h64 y⟩
  · show 0 ≤ (D.calm.write k X).2.written; omega
  · show (D.calm.write k X).2.written ≤ _; omega
/-- noughts there, or the write: it is one of the two -/
theorem dead_look {w W : World} {base b jm mb : Nat} {n : Int} {T : List Int} {M : Mj} {R : Rk} {D : Dk} {av fv : Value} {A F : List ByteArray} {fl : Bool} (h : DeadAt w W base b jm mb n T M R D av fv A F fl) :
    ∃ (B : List (Int × ByteArray)) (k : Int) (x : List Int), M.asked = B ++ [(k, strOfNums x)] ∧ 0 ≤ k ∧ k < D.n ∧ x.length = 64 ∧ IsB x ∧ T.length = 64 ∧ epsP (heldD D k T) = epsP D ∧ openJ (heldD D k T) = openJ D ∧ ∀ X, (X = zeros64 ∨ X = x) → 0 < epsP (heldD D k X) ∧ ((openJ (heldD D k X)).l.map strOfNums = A ∨ (fl = true ∧ (openJ (heldD D k X)).l.map strOfNums = F)) := by
  obtain ⟨okp, hC, hok⟩ := h.ok
  obtain ⟨B, k, x, c1, c2, c3, c4, c5, c6, c7⟩ := hC.ex
  have h64 := fun k => sec_length h.disk k
  have hTl : T.length = 64 := by rw [← c6]; exact h64 k
  have hw := h.wr
  have hsw := h.same.written
  obtain ⟨s1, s2, s3⟩ := heldD_sec D k T c2 c3 hTl
  obtain ⟨u1, u2⟩ := open_eq (D := D) (E := heldD D k T) s1.symm (fun y => by
    rw [s3]
    split
    · rename_i hy; rw [hy]; exact c6
    · rfl)
  refine ⟨B, k, x, c1, c2, c3, c4, c5, hTl, u1, u2, fun X hX => ?_⟩
  have hXl : X.length = 64 := by
    rcases hX with rfl | rfl
    · rfl
    · exact c4
  have hXb : IsB X := by
    rcases hX with rfl | rfl
    · exact isB_zeros 64
    · exact c5
  obtain ⟨v1, v2, v3⟩ := heldD_sec D k X c2 c3 hXl
  obtain ⟨o1, o2⟩ := c7 X hX (heldD D k X) v1 (heldD_wok c2 c3 hXl hXb h.secs.sec h64 ⟨by omega, by omega⟩) v3
  exact ⟨o1, hok _ o2⟩
def Two (w : World) (E : Dk) (va : Value) (pb : Bool) : Prop := (pb = false ∧ epsP E = 0 ∧ va = .slice none 0 0) ∨ (pb = true ∧ 0 < epsP E ∧ OwnR encStr 1 9 w 0 va ((openJ E).l.map strOfNums))
theorem Two.kept0 {w w' : World} {E : Dk} {va : Value} {pb : Bool} (h : Two w E va pb) (m : Mod [] w w') : Two w' E va pb := by
  rcases h with h | ⟨h1, h2, h3⟩
  · exact .inl h
  · exact .inr ⟨h1, h2, h3.kept0 m⟩
theorem Two.same {w : World} {E D : Dk} {va : Value} {pb : Bool} (h : Two w E va pb) (h1 : epsP E = epsP D) (h2 : openJ E = openJ D) : Two w D va pb := by
  unfold Two at h ⊢
  rwa [h1, h2] at h
theorem Two.yes {w : World} {E : Dk} {va : Value} {pb : Bool} (h : Two w E va pb) (h0 : 0 < epsP E) : pb = true := by
  rcases h with ⟨_, h1, _⟩ | ⟨h1, _⟩
  · omega
  · exact h1
theorem HeldRet.two {w w' : World} {E : Dk} {e : Ending} (h : HeldRet w E e w') : ∃ (va : Value) (pb : Bool), e = .returned (.tuple #[va, .bool pb]) ∧ Mod [] w w' ∧ Two w' E va pb := by
  obtain ⟨m, h1 | ⟨h1, v, h2, h3⟩⟩ := h
  · exact ⟨_, _, h1.2, m, .inl ⟨rfl, h1.1, rfl⟩⟩
  · exact ⟨_, _, h2, m, .inr ⟨rfl, h1, h3.mono (Nat.zero_le _)⟩⟩
theorem load_len {D : Dk} (hB : ∀ k, IsB (D.sec k)) : ∀ (f : Nat) (J : Jk), Loads J D f → (openJ D).l.length ≤ 1048576
  | f, J, h => by
    have key : ∀ (f : Nat) (J : Jk), Loads J D f → (J.load f D).l.length ≤ 1048576 := by
      intro f
      induction f with
      | zero => intro J h; exact h.ok.l0
      | succ f ih =>
        intro J h
        unfold Jk.load
        split
        · rename_i hm
          exact ih _ (h.step hB hm)
        · exact h.ok.l0
    have := key f J h
    rwa [h.res] at this
theorem openJ_len {w W : World} {base b jm mb : Nat} {n : Int} {T : List Int} {M : Mj} {R : Rk} {D : Dk} {av fv : Value} {A F : List ByteArray} {fl : Bool} (h : DeadAt w W base b jm mb n T M R D av fv A F fl) (h8 : 8 ≤ n) (h300 : n ≤ 300) : (openJ D).l.length ≤ 1048576 := by
  have hn := h.num
  have hw := h.wr
  have hsw := h.same.written
  exact load_len h.secs.sec _ _ (Loads.start (D := D) (by omega) (by omega) h.secs.sec)
end Go.Proofs.Ytnjfgbbdfdoccaa

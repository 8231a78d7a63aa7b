/- Layer 8 in plain: a way down a tree, and balancing along it: insertion and deletion as the program does them. No program is named here. -/
import Derived.Test.YtngglpekdjhbdaaGreatWzE
namespace Go.Proofs.YtngglpekdjhbdaaGreat
set_option linter.unusedSimpArgs false
set_option linter.unusedVariables false

structure Nd where
  x : It
  l : Int
  r : Int
  h : Int
  t : Int
  u : Bool
def Nd.zero : Nd := ⟨⟨0, 0, 0⟩, 0, 0, 0, 0, false⟩
def nodeN (ns : List Nd) (p : Nat) : Nd := ns.getD p Nd.zero
def htN (ns : List Nd) (i : Int) : Int := if i < 0 then 0 else (nodeN ns i.toNat).h
def sideN (ns : List Nd) (p : Nat) (right : Bool) : Int := if right = true then (nodeN ns p).r else (nodeN ns p).l
def hangN (ns : List Nd) (p : Nat) (right : Bool) (below : Int) : List Nd := ns.set p (if right = true then { nodeN ns p with r := below } else { nodeN ns p with l := below })
def topN (ns : List Nd) (s a : Int) : Int := if 0 ≤ s then max a (nodeN ns s.toNat).t else a
def sumN (ns : List Nd) (p : Nat) : List Nd :=
  ns.set p { nodeN ns p with h := 1 + max (htN ns (nodeN ns p).l) (htN ns (nodeN ns p).r), t := topN ns (nodeN ns p).r (topN ns (nodeN ns p).l (nodeN ns p).x.t) }
def turnN (ns : List Nd) (p : Nat) (right : Bool) : List Nd × Int :=
  (sumN (sumN (hangN (hangN ns p right (sideN ns (sideN ns p right).toNat (!right))) (sideN ns p right).toNat (!right) p) p) (sideN ns p right).toNat, sideN ns p right)
def leanN (ns : List Nd) (p : Nat) : Int := htN ns (sideN ns p true) - htN ns (sideN ns p false)
def mendedN (ns : List Nd) (p : Nat) : List Nd × Int :=
  let n1 := sumN ns p
  let lean := leanN n1 p
  if -1 ≤ lean ∧ lean ≤ 1 then (n1, p)
  else
    let rt := decide (0 < lean)
    let s := (sideN n1 p rt).toNat
    if htN n1 (sideN n1 s rt) < htN n1 (sideN n1 s (!rt)) then turnN (hangN (turnN n1 s (!rt)).1 p rt (turnN n1 s (!rt)).2) p rt else turnN n1 p rt
theorem nodeN_some {ns : List Nd} {p : Nat} {n : Nd} (h : ns[p]? = some n) : nodeN ns p = n := by simp [nodeN, List.getD, h]
theorem set_self {ns : List Nd} {p : Nat} {n m : Nd} (h : ns[p]? = some n) : (ns.set p m)[p]? = some m := by
  have := (List.getElem?_eq_some_iff.1 h).1
  simp [this]
theorem set_other {ns : List Nd} {p i : Nat} {m : Nd} (h : i ≠ p) : (ns.set p m)[i]? = ns[i]? := by
  rw [List.getElem?_set_ne (Ne.symm h)]
namespace Tr
def nd (l : Tr) (x : It) (r : Tr) : Nd := ⟨x, l.at_, r.at_, (node 0 l x r).ht, (node 0 l x r).top, true⟩
def rep (ns : List Nd) : Tr → Prop
  | nil => True
  | node p l x r => ns[p]? = some (nd l x r) ∧ rep ns l ∧ rep ns r
theorem rep_congr {ns ns' : List Nd} : ∀ {T : Tr}, (∀ p ∈ T.places, ns'[p]? = ns[p]?) → rep ns T → rep ns' T
  | nil, _, _ => trivial
  | node p l x r, h, ⟨h1, h2, h3⟩ => ⟨by rw [h p (by simp [places])]; exact h1, rep_congr (fun q hq => h q (by simp [places, hq])) h2, rep_congr (fun q hq => h q (by simp [places, hq])) h3⟩
theorem rep_set {ns : List Nd} {T : Tr} (h : rep ns T) {p : Nat} (hp : p ∉ T.places) (n : Nd) : rep (ns.set p n) T :=
  rep_congr (fun q hq => set_other (fun e => hp (e ▸ hq))) h
theorem htN_rep {ns : List Nd} {T : Tr} (h : rep ns T) : htN ns T.at_ = T.ht := by
  cases T with
  | nil => rfl
  | node p l x r =>
    show htN ns (p : Int) = _
    unfold htN
    rw [if_neg (by omega), show ((p : Int).toNat) = p by omega, nodeN_some h.1]
    rfl
def topOr (T : Tr) (a : Int) : Int := match T with | nil => a | node .. => T.top
theorem top_node (l : Tr) (x : It) (r : Tr) : (node 0 l x r).top = max (max x.t (topOr l x.t)) (topOr r x.t) := rfl
theorem topN_rep {ns : List Nd} {T : Tr} (h : rep ns T) (a : Int) : topN ns T.at_ a = max a (topOr T a) := by
  cases T with
  | nil => simp [topN, at_, topOr]
  | node p l x r =>
    show topN ns (p : Int) a = _
    unfold topN
    rw [if_pos (by omega), show ((p : Int).toNat) = p by omega, nodeN_some h.1]
    rfl
theorem sumN_eq {ns : List Nd} {p : Nat} {l r : Tr} {x : It} {h t : Int} (hp : ns[p]? = some ⟨x, l.at_, r.at_, h, t, true⟩) (hl : rep ns l) (hr : rep ns r) : sumN ns p = ns.set p (nd l x r) := by
  unfold sumN
  rw [nodeN_some hp]
  dsimp only
  rw [htN_rep hl, htN_rep hr, topN_rep hl, topN_rep hr]
  congr 1
  unfold nd
  congr 1
  rw [top_node]
  have h1 : ∀ A, x.t ≤ A → max A (topOr r A) = max A (topOr r x.t) := fun A hA => by
    cases r with
    | nil => simp only [topOr]; omega
    | node => rfl
  exact h1 _ (by omega)
/-- what an operation on a part leaves -/
structure Part (ns : List Nd) (ps : List Nat) (T : Tr) (ns' : List Nd) (at_ : Int) : Prop where
  rep : T.rep ns'
  root : at_ = T.at_
  len : ns'.length = ns.length
  other : ∀ i, i ∉ ps → ns'[i]? = ns[i]?
theorem turnL {ns : List Nd} {p q : Nat} {l a b : Tr} {x y : It} {h t h' t' : Int} (hp : ns[p]? = some ⟨x, l.at_, (q : Int), h, t, true⟩) (hq : ns[q]? = some ⟨y, a.at_, b.at_, h', t', true⟩) (hl : rep ns l) (ha : rep ns a) (hb : rep ns b)
    (hne : p ≠ q) (pl : p ∉ l.places) (pa : p ∉ a.places) (pb : p ∉ b.places) (ql : q ∉ l.places) (qa : q ∉ a.places) (qb : q ∉ b.places) : Part ns [p, q] (node q (node p l x a) y b) (turnN ns p true).1 (turnN ns p true).2 := by
  have e1 : sideN ns p true = (q : Int) := by simp [sideN, nodeN_some hp]
  have e2 : sideN ns q false = a.at_ := by simp [sideN, nodeN_some hq]
  have e3 : hangN ns p true a.at_ = ns.set p ⟨x, l.at_, a.at_, h, t, true⟩ := by simp [hangN, nodeN_some hp]
  have hq1 : (ns.set p ⟨x, l.at_, a.at_, h, t, true⟩)[q]? = some ⟨y, a.at_, b.at_, h', t', true⟩ := by rw [set_other (Ne.symm hne)]; exact hq
  have e4 : hangN (ns.set p ⟨x, l.at_, a.at_, h, t, true⟩) q false p = (ns.set p ⟨x, l.at_, a.at_, h, t, true⟩).set q ⟨y, p, b.at_, h', t', true⟩ := by simp [hangN, nodeN_some hq1]
  have hp2 : ((ns.set p ⟨x, l.at_, a.at_, h, t, true⟩).set q ⟨y, p, b.at_, h', t', true⟩)[p]? = some ⟨x, l.at_, a.at_, h, t, true⟩ := by rw [set_other hne, set_self hp]
  have e5 := sumN_eq hp2 (rep_set (rep_set hl pl _) ql _) (rep_set (rep_set ha pa _) qa _)
  generalize hN : ((ns.set p ⟨x, l.at_, a.at_, h, t, true⟩).set q ⟨y, p, b.at_, h', t', true⟩) = N at *
  have hqN : N[q]? = some ⟨y, p, b.at_, h', t', true⟩ := by rw [← hN, set_self hq1]
  have hq3 : (N.set p (nd l x a))[q]? = some ⟨y, p, b.at_, h', t', true⟩ := by rw [set_other (Ne.symm hne)]; exact hqN
  have hlN : rep N l := by rw [← hN]; exact rep_set (rep_set hl pl _) ql _
  have haN : rep N a := by rw [← hN]; exact rep_set (rep_set ha pa _) qa _
  have hbN : rep N b := by rw [← hN]; exact rep_set (rep_set hb pb _) qb _
  have hP : rep (N.set p (nd l x a)) (node p l x a) := ⟨set_self hp2, rep_set hlN pl _, rep_set haN pa _⟩
  have e6 := sumN_eq (l := node p l x a) (r := b) (x := y) hq3 hP (rep_set hbN pb _)
  have eT : turnN ns p true = ((N.set p (nd l x a)).set q (nd (node p l x a) y b), (q : Int)) := by
    unfold turnN
    rw [e1, show ((q : Int).toNat) = q by omega, Bool.not_true, e2, e3, e4, e5, e6]
  rw [eT]
  refine ⟨⟨set_self hq3, ?_, rep_set (rep_set hbN pb _) qb _⟩, rfl, by simp [← hN], fun i hi => ?_⟩
  · refine ⟨by rw [set_other hne]; exact set_self hp2, rep_set (rep_set hlN pl _) ql _, rep_set (rep_set haN pa _) qa _⟩
  · simp only [List.mem_cons, List.not_mem_nil, or_false, not_or] at hi
    rw [set_other hi.2, set_other hi.1, ← hN, set_other hi.2, set_other hi.1]
theorem turnR {ns : List Nd} {p q : Nat} {a b r : Tr} {x y : It} {h t h' t' : Int} (hp : ns[p]? = some ⟨x, (q : Int), r.at_, h, t, true⟩) (hq : ns[q]? = some ⟨y, a.at_, b.at_, h', t', true⟩) (hr : rep ns r) (ha : rep ns a) (hb : rep ns b)
    (hne : p ≠ q) (pr : p ∉ r.places) (pa : p ∉ a.places) (pb : p ∉ b.places) (qr : q ∉ r.places) (qa : q ∉ a.places) (qb : q ∉ b.places) : Part ns [p, q] (node q a y (node p b x r)) (turnN ns p false).1 (turnN ns p false).2 := by
  have e1 : sideN ns p false = (q : Int) := by simp [sideN, nodeN_some hp]
  have e2 : sideN ns q true = b.at_ := by simp [sideN, nodeN_some hq]
  have e3 : hangN ns p false b.at_ = ns.set p ⟨x, b.at_, r.at_, h, t, true⟩ := by simp [hangN, nodeN_some hp]
  have hq1 : (ns.set p ⟨x, b.at_, r.at_, h, t, true⟩)[q]? = some ⟨y, a.at_, b.at_, h', t', true⟩ := by rw [set_other (Ne.symm hne)]; exact hq
  have e4 : hangN (ns.set p ⟨x, b.at_, r.at_, h, t, true⟩) q true p = (ns.set p ⟨x, b.at_, r.at_, h, t, true⟩).set q ⟨y, a.at_, p, h', t', true⟩ := by simp [hangN, nodeN_some hq1]
  have hp2 : ((ns.set p ⟨x, b.at_, r.at_, h, t, true⟩).set q ⟨y, a.at_, p, h', t', true⟩)[p]? = some ⟨x, b.at_, r.at_, h, t, true⟩ := by rw [set_other hne, set_self hp]
  have e5 := sumN_eq hp2 (rep_set (rep_set hb pb _) qb _) (rep_set (rep_set hr pr _) qr _)
  generalize hN : ((ns.set p ⟨x, b.at_, r.at_, h, t, true⟩).set q ⟨y, a.at_, p, h', t', true⟩) = N at *
  have hqN : N[q]? = some ⟨y, a.at_, p, h', t', true⟩ := by rw [← hN, set_self hq1]
  have hq3 : (N.set p (nd b x r))[q]? = some ⟨y, a.at_, p, h', t', true⟩ := by rw [set_other (Ne.symm hne)]; exact hqN
  have hrN : rep N r := by rw [← hN]; exact rep_set (rep_set hr pr _) qr _
  have haN : rep N a := by rw [← hN]; exact rep_set (rep_set ha pa _) qa _
  have hbN : rep N b := by rw [← hN]; exact rep_set (rep_set hb pb _) qb _
  have hP : rep (N.set p (nd b x r)) (node p b x r) := ⟨set_self hp2, rep_set hbN pb _, rep_set hrN pr _⟩
  have e6 := sumN_eq (l := a) (r := node p b x r) (x := y) hq3 (rep_set haN pa _) hP
  have eT : turnN ns p false = ((N.set p (nd b x r)).set q (nd a y (node p b x r)), (q : Int)) := by
    unfold turnN
    rw [e1, show ((q : Int).toNat) = q by omega, Bool.not_false, e2, e3, e4, e5, e6]
  rw [eT]
  refine ⟨⟨set_self hq3, rep_set (rep_set haN pa _) qa _, ?_⟩, rfl, by simp [← hN], fun i hi => ?_⟩
  · refine ⟨by rw [set_other hne]; exact set_self hp2, rep_set (rep_set hbN pb _) qb _, rep_set (rep_set hrN pr _) qr _⟩
  · simp only [List.mem_cons, List.not_mem_nil, or_false, not_or] at hi
    rw [set_other hi.2, set_other hi.1, ← hN, set_other hi.2, set_other hi.1]
theorem mendedN_part {ns : List Nd} {p : Nat} {l r : Tr} {x : It} {h t : Int} (hp : ns[p]? = some ⟨x, l.at_, r.at_, h, t, true⟩) (hl : rep ns l) (hr : rep ns r) (hn : (p :: (l.places ++ r.places)).Nodup) :
    Part ns (p :: (l.places ++ r.places)) (mend p l x r) (mendedN ns p).1 (mendedN ns p).2 := by
  obtain ⟨hpn, hn2⟩ := List.nodup_cons.1 hn
  obtain ⟨hnl, hnr, hdis⟩ := List.nodup_append.1 hn2
  have pl : p ∉ l.places := fun e => hpn (List.mem_append_left _ e)
  have pr : p ∉ r.places := fun e => hpn (List.mem_append_right _ e)
  have e := sumN_eq hp hl hr
  have h1 : (ns.set p (nd l x r))[p]? = some (nd l x r) := set_self hp
  have hl1 : rep (ns.set p (nd l x r)) l := rep_set hl pl _
  have hr1 : rep (ns.set p (nd l x r)) r := rep_set hr pr _
  have ho : ∀ i, i ≠ p → (ns.set p (nd l x r))[i]? = ns[i]? := fun i hi => set_other hi
  have hlen : (ns.set p (nd l x r)).length = ns.length := by simp
  unfold mendedN
  simp only [e]
  generalize ns.set p (nd l x r) = N at *
  have s1 : sideN N p true = r.at_ := by simp [sideN, nodeN_some h1, nd]
  have s2 : sideN N p false = l.at_ := by simp [sideN, nodeN_some h1, nd]
  have hlean : leanN N p = r.ht - l.ht := by unfold leanN; rw [s1, s2, htN_rep hr1, htN_rep hl1]
  rw [hlean]
  by_cases hb : -1 ≤ r.ht - l.ht ∧ r.ht - l.ht ≤ 1
  · rw [if_pos hb]
    have em : mend p l x r = node p l x r := by
      unfold mend
      rw [if_neg (by omega), if_neg (by omega)]
    rw [em]
    exact ⟨⟨h1, hl1, hr1⟩, rfl, hlen, fun i hi => ho i (fun e => hi (by simp [e]))⟩
  · rw [if_neg hb]
    by_cases hg : 0 < r.ht - l.ht
    · rw [decide_eq_true hg, s1, Bool.not_true]
      cases r with
      | nil => have := ht_nonneg l; simp [ht] at hg; omega
      | node q a y b =>
        have hg1 : (node q a y b).ht - l.ht > 1 := by omega
        obtain ⟨hq1, ha1, hb1⟩ := hr1
        obtain ⟨hqn, hn3⟩ := List.nodup_cons.1 (show (q :: (a.places ++ b.places)).Nodup from hnr)
        obtain ⟨hna, hnb, hdab⟩ := List.nodup_append.1 hn3
        have qa : q ∉ a.places := fun e => hqn (List.mem_append_left _ e)
        have qb : q ∉ b.places := fun e => hqn (List.mem_append_right _ e)
        simp only [places, List.mem_cons, List.mem_append, not_or] at pr
        obtain ⟨hpq, pa, pb⟩ := pr
        have lq : q ∉ l.places := fun e => hdis q e q (by simp [places]) rfl
        have la : ∀ i ∈ a.places, i ∉ l.places := fun i hi e => hdis i e i (by simp [places, hi]) rfl
        have lb : ∀ i ∈ b.places, i ∉ l.places := fun i hi e => hdis i e i (by simp [places, hi]) rfl
        rw [show (node q a y b).at_.toNat = q by simp [at_]]
        have t1 : sideN N q true = b.at_ := by simp [sideN, nodeN_some hq1, nd]
        have t2 : sideN N q false = a.at_ := by simp [sideN, nodeN_some hq1, nd]
        rw [t1, t2, htN_rep ha1, htN_rep hb1]
        have em : mend p l x (node q a y b) = if a.ht > b.ht then rotL p l x (rotR q a y b) else rotL p l x (node q a y b) := by
          unfold mend
          rw [if_pos hg1]
        rw [em]
        by_cases hab : b.ht < a.ht
        · rw [if_pos hab, if_pos hab]
          cases a with
          | nil => have := ht_nonneg b; simp [ht] at hab; omega
          | node s c z d =>
            obtain ⟨hs1, hc1, hd1⟩ := ha1
            obtain ⟨hsn, hn4⟩ := List.nodup_cons.1 (show (s :: (c.places ++ d.places)).Nodup from hna)
            obtain ⟨hnc, hnd, hdcd⟩ := List.nodup_append.1 hn4
            simp only [places, List.mem_cons, List.mem_append, not_or] at qa pa
            obtain ⟨hqs, qc, qd⟩ := qa
            obtain ⟨hps, pc, pd⟩ := pa
            have sc : s ∉ c.places := fun e => hsn (List.mem_append_left _ e)
            have sd : s ∉ d.places := fun e => hsn (List.mem_append_right _ e)
            have sb : s ∉ b.places := fun e => hdab s (by simp [places]) s e rfl
            have sl : s ∉ l.places := la s (by simp [places])
            have hcd : ∀ i ∈ c.places, i ≠ q ∧ i ≠ s := fun i hi => ⟨fun e => qc (e ▸ hi), fun e => sc (e ▸ hi)⟩
            have P1 := turnR (p := q) (q := s) (a := c) (b := d) (r := b) hq1 hs1 hb1 hc1 hd1 hqs qb qc qd sb sc sd
            have hp2 : (turnN N q false).1[p]? = some (nd l x (node q (node s c z d) y b)) := by
              rw [P1.other p (by simp [hpq, hps])]; exact h1
            rw [P1.root]
            have eh : hangN (turnN N q false).1 p true (node s c z (node q d y b)).at_ = (turnN N q false).1.set p ⟨x, l.at_, (s : Int), (nd l x (node q (node s c z d) y b)).h, (nd l x (node q (node s c z d) y b)).t, true⟩ := by
              simp [hangN, nodeN_some hp2, nd, at_]
            rw [eh]
            obtain ⟨r1, r2, r3⟩ := P1.rep
            have hq3 := set_self (m := (⟨x, l.at_, (s : Int), (nd l x (node q (node s c z d) y b)).h, (nd l x (node q (node s c z d) y b)).t, true⟩ : Nd)) hp2
            have hs3 : ((turnN N q false).1.set p ⟨x, l.at_, (s : Int), (nd l x (node q (node s c z d) y b)).h, (nd l x (node q (node s c z d) y b)).t, true⟩)[s]? = some (nd c z (node q d y b)) := by
              rw [set_other (Ne.symm hps)]; exact r1
            have hl3 : rep (turnN N q false).1 l := rep_congr (fun i hi => P1.other i (by
              simp only [List.mem_cons, List.not_mem_nil, or_false, not_or]
              exact ⟨fun e => lq (e ▸ hi), fun e => sl (e ▸ hi)⟩)) hl1
            have pN : p ∉ (node q d y b).places := by
              simp only [places, List.mem_cons, List.mem_append, not_or]
              exact ⟨hpq, pd, pb⟩
            have sN : s ∉ (node q d y b).places := by
              simp only [places, List.mem_cons, List.mem_append, not_or]
              exact ⟨Ne.symm hqs, sd, sb⟩
            have P2 := turnL (p := p) (q := s) (l := l) (a := c) (b := node q d y b) hq3 hs3 (rep_set hl3 pl _) (rep_set r2 pc _) (rep_set r3 pN _) hps pl pc pN sl sc sN
            refine ⟨P2.rep, P2.root, by rw [P2.len]; simp [P1.len, hlen], fun i hi => ?_⟩
            simp only [places, List.mem_cons, List.mem_append, not_or] at hi
            rw [P2.other i (by simp [hi.1, hi.2.2.2.1.1]), set_other hi.1, P1.other i (by simp [hi.2.2.1, hi.2.2.2.1.1]), ho i hi.1]
        · rw [if_neg hab, if_neg hab]
          have P2 := turnL (p := p) (q := q) (l := l) (a := a) (b := b) h1 hq1 hl1 ha1 hb1 hpq pl pa pb lq qa qb
          refine ⟨P2.rep, P2.root, by rw [P2.len, hlen], fun i hi => ?_⟩
          simp only [places, List.mem_cons, List.mem_append, not_or] at hi
          rw [P2.other i (by simp [hi.1, hi.2.2.1]), ho i hi.1]
    · rw [decide_eq_false hg, s2, Bool.not_false]
      cases l with
      | nil => have := ht_nonneg r; simp [ht] at hb hg; omega
      | node q a y b =>
        have hg1 : (node q a y b).ht - r.ht > 1 := by omega
        obtain ⟨hq1, ha1, hb1⟩ := hl1
        obtain ⟨hqn, hn3⟩ := List.nodup_cons.1 (show (q :: (a.places ++ b.places)).Nodup from hnl)
        obtain ⟨hna, hnb, hdab⟩ := List.nodup_append.1 hn3
        have qa : q ∉ a.places := fun e => hqn (List.mem_append_left _ e)
        have qb : q ∉ b.places := fun e => hqn (List.mem_append_right _ e)
        simp only [places, List.mem_cons, List.mem_append, not_or] at pl
        obtain ⟨hpq, pa, pb⟩ := pl
        have rq : q ∉ r.places := fun e => hdis q (by simp [places]) q e rfl
        have rb : ∀ i ∈ b.places, i ∉ r.places := fun i hi e => hdis i (by simp [places, hi]) i e rfl
        rw [show (node q a y b).at_.toNat = q by simp [at_]]
        have t1 : sideN N q true = b.at_ := by simp [sideN, nodeN_some hq1, nd]
        have t2 : sideN N q false = a.at_ := by simp [sideN, nodeN_some hq1, nd]
        rw [t1, t2, htN_rep ha1, htN_rep hb1]
        have em : mend p (node q a y b) x r = if b.ht > a.ht then rotR p (rotL q a y b) x r else rotR p (node q a y b) x r := by
          unfold mend
          rw [if_neg (by omega), if_pos hg1]
        rw [em]
        by_cases hab : a.ht < b.ht
        · rw [if_pos hab, if_pos hab]
          cases b with
          | nil => have := ht_nonneg a; simp [ht] at hab; omega
          | node s c z d =>
            obtain ⟨hs1, hc1, hd1⟩ := hb1
            obtain ⟨hsn, hn4⟩ := List.nodup_cons.1 (show (s :: (c.places ++ d.places)).Nodup from hnb)
            obtain ⟨hnc, hnd, hdcd⟩ := List.nodup_append.1 hn4
            simp only [places, List.mem_cons, List.mem_append, not_or] at qb pb
            obtain ⟨hqs, qc, qd⟩ := qb
            obtain ⟨hps, pc, pd⟩ := pb
            have sc : s ∉ c.places := fun e => hsn (List.mem_append_left _ e)
            have sd : s ∉ d.places := fun e => hsn (List.mem_append_right _ e)
            have sa : s ∉ a.places := fun e => hdab s e s (by simp [places]) rfl
            have sr : s ∉ r.places := rb s (by simp [places])
            have P1 := turnL (p := q) (q := s) (l := a) (a := c) (b := d) hq1 hs1 ha1 hc1 hd1 hqs qa qc qd sa sc sd
            have hp2 : (turnN N q true).1[p]? = some (nd (node q a y (node s c z d)) x r) := by
              rw [P1.other p (by simp [hpq, hps])]; exact h1
            rw [P1.root]
            have eh : hangN (turnN N q true).1 p false (node s (node q a y c) z d).at_ = (turnN N q true).1.set p ⟨x, (s : Int), r.at_, (nd (node q a y (node s c z d)) x r).h, (nd (node q a y (node s c z d)) x r).t, true⟩ := by
              simp [hangN, nodeN_some hp2, nd, at_]
            rw [eh]
            obtain ⟨r1, r2, r3⟩ := P1.rep
            have hq3 := set_self (m := (⟨x, (s : Int), r.at_, (nd (node q a y (node s c z d)) x r).h, (nd (node q a y (node s c z d)) x r).t, true⟩ : Nd)) hp2
            have hs3 : ((turnN N q true).1.set p ⟨x, (s : Int), r.at_, (nd (node q a y (node s c z d)) x r).h, (nd (node q a y (node s c z d)) x r).t, true⟩)[s]? = some (nd (node q a y c) z d) := by
              rw [set_other (Ne.symm hps)]; exact r1
            have hr3 : rep (turnN N q true).1 r := rep_congr (fun i hi => P1.other i (by
              simp only [List.mem_cons, List.not_mem_nil, or_false, not_or]
              exact ⟨fun e => rq (e ▸ hi), fun e => sr (e ▸ hi)⟩)) hr1
            have pN : p ∉ (node q a y c).places := by
              simp only [places, List.mem_cons, List.mem_append, not_or]
              exact ⟨hpq, pa, pc⟩
            have sN : s ∉ (node q a y c).places := by
              simp only [places, List.mem_cons, List.mem_append, not_or]
              exact ⟨Ne.symm hqs, sa, sc⟩
            have P2 := turnR (p := p) (q := s) (r := r) (a := node q a y c) (b := d) hq3 hs3 (rep_set hr3 pr _) (rep_set r2 pN _) (rep_set r3 pd _) hps pr pN pd sr sN sd
            refine ⟨P2.rep, P2.root, by rw [P2.len]; simp [P1.len, hlen], fun i hi => ?_⟩
            simp only [places, List.mem_cons, List.mem_append, not_or] at hi
            obtain ⟨i1, ⟨i2, i3, i4, i5, i6⟩, i7⟩ := hi
            rw [P2.other i (by simp [i1, i4]), set_other i1, P1.other i (by simp [i2, i4]), ho i i1]
        · rw [if_neg hab, if_neg hab]
          have P2 := turnR (p := p) (q := q) (r := r) (a := a) (b := b) h1 hq1 hr1 ha1 hb1 hpq pr pa pb rq qa qb
          refine ⟨P2.rep, P2.root, by rw [P2.len, hlen], fun i hi => ?_⟩
          simp only [places, List.mem_cons, List.mem_append, not_or] at hi
          rw [P2.other i (by simp [hi.1, hi.2.1.1]), ho i hi.1]
end Tr
end Go.Proofs.YtngglpekdjhbdaaGreat
namespace Go.Proofs.YtngglpekdjhbdaaGreat
set_option linter.unusedSimpArgs false
set_option linter.unusedVariables false

/-- a node on the way: its place, whether the way goes on to the right, its item, its other side -/
structure Fr where
  p : Nat
  d : Bool
  x : It
  o : Tr
def Fr.places (f : Fr) : List Nat := f.p :: f.o.places
def pth (fs : List Fr) : List (Nat × Bool) := fs.map fun f => (f.p, f.d)
def hangTop (ns : List Nd) (root : Int) (fs : List (Nat × Bool)) (below : Int) : List Nd × Int :=
  match fs with
  | [] => (ns, below)
  | f :: _ => (hangN ns f.1 f.2 below, root)
def mendP : List Nd → Int → List (Nat × Bool) → List Nd × Int
  | ns, root, [] => (ns, root)
  | ns, root, f :: fs => let m := mendedN ns f.1; let h := hangTop m.1 root fs m.2; mendP h.1 h.2 fs
namespace Tr
def plugM : Tr → List Fr → Tr
  | T, [] => T
  | T, f :: fs => plugM (if f.d = true then mend f.p f.o f.x T else mend f.p T f.x f.o) fs
def RestOk (ns : List Nd) (fs : List Fr) : Prop := ∀ f ∈ fs, (∃ lk h t, ns[f.p]? = some (if f.d = true then ⟨f.x, f.o.at_, lk, h, t, true⟩ else ⟨f.x, lk, f.o.at_, h, t, true⟩)) ∧ rep ns f.o
theorem RestOk.congr {ns ns' : List Nd} {fs : List Fr} (h : RestOk ns fs) (he : ∀ i ∈ fs.flatMap Fr.places, ns'[i]? = ns[i]?) : RestOk ns' fs := fun f hf => by
  obtain ⟨⟨lk, hh, t, h1⟩, h2⟩ := h f hf
  refine ⟨⟨lk, hh, t, ?_⟩, rep_congr (fun q hq => he q (List.mem_flatMap.2 ⟨f, hf, by simp [Fr.places, hq]⟩)) h2⟩
  rw [he f.p (List.mem_flatMap.2 ⟨f, hf, by simp [Fr.places]⟩)]
  exact h1
theorem mendP_rep : ∀ (fs : List Fr) (ns : List Nd) (root : Int) (T : Tr), rep ns T → RestOk ns fs → (T.places ++ fs.flatMap Fr.places).Nodup →
    Part ns (T.places ++ fs.flatMap Fr.places) (plugM T fs) (mendP (hangTop ns root (pth fs) T.at_).1 (hangTop ns root (pth fs) T.at_).2 (pth fs)).1 (mendP (hangTop ns root (pth fs) T.at_).1 (hangTop ns root (pth fs) T.at_).2 (pth fs)).2
  | [], ns, root, T, hT, _, _ => ⟨hT, rfl, rfl, fun _ _ => rfl⟩
  | f :: fs, ns, root, T, hT, hR, hn => by
    obtain ⟨⟨lk, hh, t, hf⟩, ho⟩ := hR f (by simp)
    simp only [List.flatMap_cons, Fr.places] at hn
    obtain ⟨n1, n2, n3⟩ := List.nodup_append.1 hn
    obtain ⟨n4, n5, n6⟩ := List.nodup_append.1 n2
    obtain ⟨n7, n8⟩ := List.nodup_cons.1 n4
    have pT : f.p ∉ T.places := fun e => n3 f.p e f.p (by simp) rfl
    have po : f.p ∉ f.o.places := n7
    have hTR : RestOk ns fs := fun g hg => hR g (by simp [hg])
    have hdo : ∀ i ∈ T.places, i ∉ f.o.places := fun i hi e => n3 i hi i (by simp [e]) rfl
    have hfs : ∀ i ∈ fs.flatMap Fr.places, i ≠ f.p ∧ i ∉ f.o.places ∧ i ∉ T.places := fun i hi => ⟨fun e => n6 f.p (by simp) i hi e.symm, fun e => n6 i (by simp [e]) i hi rfl, fun e => n3 i e i (by simp only [List.mem_append]; exact .inr hi) rfl⟩
    obtain ⟨N, hN⟩ : ∃ N, hangN ns f.p f.d T.at_ = N := ⟨_, rfl⟩
    have hlen : N.length = ns.length := by rw [← hN]; simp [hangN]
    have hoth : ∀ i, i ≠ f.p → N[i]? = ns[i]? := fun i hi => by rw [← hN]; exact set_other hi
    have hTN : rep N T := rep_congr (fun q hq => hoth q (fun e => pT (e ▸ hq))) hT
    have hoN : rep N f.o := rep_congr (fun q hq => hoth q (fun e => po (e ▸ hq))) ho
    have hpN : N[f.p]? = some (if f.d = true then ⟨f.x, f.o.at_, T.at_, hh, t, true⟩ else ⟨f.x, T.at_, f.o.at_, hh, t, true⟩) := by
      rw [← hN]
      unfold hangN
      rw [set_self hf, nodeN_some hf]
      cases f.d <;> rfl
    obtain ⟨T', hT'⟩ : ∃ T', (if f.d = true then mend f.p f.o f.x T else mend f.p T f.x f.o) = T' := ⟨_, rfl⟩
    have P : Part N (f.p :: (f.o.places ++ T.places)) T' (mendedN N f.p).1 (mendedN N f.p).2 := by
      rw [← hT']
      cases hd : f.d with
      | true =>
        rw [hd] at hpN
        refine mendedN_part hpN hoN hTN (List.nodup_cons.2 ⟨by simp [po, pT], List.nodup_append.2 ⟨n8, n1, fun a ha b hb e => hdo b hb (e ▸ ha)⟩⟩)
      | false =>
        rw [hd] at hpN
        have := mendedN_part hpN hTN hoN (List.nodup_cons.2 ⟨by simp [po, pT], List.nodup_append.2 ⟨n1, n8, fun a ha b hb e => hdo a ha (e ▸ hb)⟩⟩)
        exact ⟨this.rep, this.root, this.len, fun i hi => this.other i (fun h => hi (by
          simp only [List.mem_cons, List.mem_append] at h ⊢
          rcases h with h | h | h
          · exact .inl h
          · exact .inr (.inr h)
          · exact .inr (.inl h)))⟩
    have hperm : T'.places.Perm (f.p :: (f.o.places ++ T.places)) := by
      rw [← hT']
      cases hd : f.d with
      | true => exact places_mend _ _ _ _
      | false =>
        rw [if_neg (by simp)]
        exact (places_mend _ _ _ _).trans (List.Perm.cons _ List.perm_append_comm)
    have hmem : ∀ i, i ∈ T'.places ↔ i = f.p ∨ i ∈ f.o.places ∨ i ∈ T.places := fun i => by rw [hperm.mem_iff]; simp
    have hRN : RestOk (mendedN N f.p).1 fs := hTR.congr fun i hi => by
      obtain ⟨e1, e2, e3⟩ := hfs i hi
      rw [P.other i (by simp [e1, e2, e3]), hoth i e1]
    have hn' : (T'.places ++ fs.flatMap Fr.places).Nodup := List.nodup_append.2 ⟨hperm.nodup_iff.2 (List.nodup_cons.2 ⟨by simp [po, pT], List.nodup_append.2 ⟨n8, n1, fun a ha b hb e => hdo b hb (e ▸ ha)⟩⟩), n5, fun a ha b hb e => by
      obtain ⟨e1, e2, e3⟩ := hfs b hb
      rcases (hmem a).1 ha with h | h | h
      · exact e1 (e ▸ h)
      · exact e2 (e ▸ h)
      · exact e3 (e ▸ h)⟩
    have IH := mendP_rep fs (mendedN N f.p).1 root T' P.rep hRN hn'
    have e1 : hangTop ns root (pth (f :: fs)) T.at_ = (N, root) := by simp [hangTop, pth, hN]
    rw [e1]
    have e2 : mendP N root (pth (f :: fs)) = mendP (hangTop (mendedN N f.p).1 root (pth fs) T'.at_).1 (hangTop (mendedN N f.p).1 root (pth fs) T'.at_).2 (pth fs) := by
      simp only [pth, List.map_cons, mendP]
      rw [P.root]
    have e3 : plugM T (f :: fs) = plugM T' fs := by simp only [plugM]; rw [hT']
    rw [e2, e3]
    refine ⟨IH.rep, IH.root, by rw [IH.len, P.len, hlen], fun i hi => ?_⟩
    simp only [List.flatMap_cons, Fr.places, List.mem_append, List.mem_cons, not_or] at hi
    obtain ⟨i1, ⟨i2, i3⟩, i4⟩ := hi
    rw [IH.other i (by simp only [List.mem_append, not_or]; exact ⟨by rw [hmem]; simp [i1, i2, i3], i4⟩), P.other i (by simp [i1, i2, i3]), hoth i i2]
/-! ### the way down -/
def downT (x : It) : Tr → List Fr → List Fr × Tr
  | nil, fs => (fs, nil)
  | node p l y r, fs => if ordI x y = 0 then (fs, node p l y r) else if 0 < ordI x y then downT x r (⟨p, true, y, l⟩ :: fs) else downT x l (⟨p, false, y, r⟩ :: fs)
theorem downT_rest {ns : List Nd} (x : It) : ∀ (T : Tr) (fs : List Fr), rep ns T → RestOk ns fs → RestOk ns (downT x T fs).1 ∧ rep ns (downT x T fs).2
  | nil, fs, hT, hR => ⟨hR, trivial⟩
  | node p l y r, fs, ⟨h1, h2, h3⟩, hR => by
    unfold downT
    split
    · exact ⟨hR, h1, h2, h3⟩
    · split
      · exact downT_rest x r _ h3 (fun f hf => by
          rcases List.mem_cons.1 hf with rfl | hf
          · exact ⟨⟨_, _, _, h1⟩, h2⟩
          · exact hR f hf)
      · exact downT_rest x l _ h2 (fun f hf => by
          rcases List.mem_cons.1 hf with rfl | hf
          · exact ⟨⟨_, _, _, h1⟩, h3⟩
          · exact hR f hf)
theorem downT_places (x : It) : ∀ (T : Tr) (fs : List Fr), ((downT x T fs).2.places ++ (downT x T fs).1.flatMap Fr.places).Perm (T.places ++ fs.flatMap Fr.places)
  | nil, fs => List.Perm.refl _
  | node p l y r, fs => by
    unfold downT
    split
    · exact List.Perm.refl _
    · split
      · refine (downT_places x r _).trans ?_
        simp only [List.flatMap_cons, Fr.places, places, List.cons_append]
        refine List.perm_middle.trans (List.Perm.cons p ?_)
        rw [← List.append_assoc]
        exact List.Perm.append_right _ List.perm_append_comm
      · refine (downT_places x l _).trans ?_
        simp only [List.flatMap_cons, Fr.places, places, List.cons_append]
        refine List.perm_middle.trans (List.Perm.cons p ?_)
        rw [List.append_assoc]
theorem downT_len (x : It) : ∀ (T : Tr) (fs : List Fr), ((downT x T fs).1.length : Int) + (downT x T fs).2.ht ≤ fs.length + T.ht
  | nil, fs => by simp [downT, ht]
  | node p l y r, fs => by
    unfold downT
    split
    · exact Int.le_refl _
    · split
      · have := downT_len x r (⟨p, true, y, l⟩ :: fs)
        simp only [List.length_cons, ht] at this ⊢
        omega
      · have := downT_len x l (⟨p, false, y, r⟩ :: fs)
        simp only [List.length_cons, ht] at this ⊢
        omega
theorem downT_ins (q : Nat) (x : It) : ∀ (T : Tr) (fs : List Fr), x ∉ T.items → (downT x T fs).2 = nil ∧ plugM (node q nil x nil) (downT x T fs).1 = plugM (ins q x T) fs
  | nil, fs, _ => ⟨rfl, rfl⟩
  | node p l y r, fs, hx => by
    simp only [items, List.mem_append, List.mem_cons, not_or] at hx
    have hne : ordI x y ≠ 0 := fun h => hx.2.1 (ordI_zero.1 h)
    unfold downT
    rw [if_neg hne]
    split
    · rename_i hc
      obtain ⟨e1, e2⟩ := downT_ins q x r (⟨p, true, y, l⟩ :: fs) hx.2.2
      refine ⟨e1, ?_⟩
      have e3 : ins q x (node p l y r) = mend p l y (ins q x r) := by rw [ins, if_neg (by omega)]
      rw [e2, e3]
      rfl
    · rename_i hc
      obtain ⟨e1, e2⟩ := downT_ins q x l (⟨p, false, y, r⟩ :: fs) hx.1
      refine ⟨e1, ?_⟩
      have e3 : ins q x (node p l y r) = mend p (ins q x l) y r := by rw [ins, if_pos (by omega)]
      rw [e2, e3]
      rfl
/-- the way on to the least item below, and what is right of it -/
def minF : Nat → Tr → It → Tr → List Fr → Nat × It × Tr × List Fr
  | q, nil, z, b, fs => (q, z, b, fs)
  | q, node s c u d, z, b, fs => minF s c u d (⟨q, false, z, b⟩ :: fs)
theorem minF_del : ∀ (a : Tr) (q : Nat) (z : It) (b : Tr) (fs : List Fr), (minF q a z b fs).1 = (delMin q a z b).1 ∧ (minF q a z b fs).2.1 = (delMin q a z b).2.1 ∧ plugM (minF q a z b fs).2.2.1 (minF q a z b fs).2.2.2 = plugM (delMin q a z b).2.2 fs
  | nil, q, z, b, fs => ⟨rfl, rfl, rfl⟩
  | node s c u d, q, z, b, fs => by
    obtain ⟨e1, e2, e3⟩ := minF_del c s u d (⟨q, false, z, b⟩ :: fs)
    simp only [minF, delMin]
    refine ⟨e1, e2, ?_⟩
    rw [e3, plugM]
    rfl
theorem minF_rest {ns : List Nd} : ∀ (a : Tr) (q : Nat) (z : It) (b : Tr) (fs : List Fr), rep ns (node q a z b) → RestOk ns fs →
    RestOk ns (minF q a z b fs).2.2.2 ∧ rep ns (minF q a z b fs).2.2.1 ∧ ns[(minF q a z b fs).1]? = some (nd nil (minF q a z b fs).2.1 (minF q a z b fs).2.2.1)
  | nil, q, z, b, fs, ⟨h1, h2, h3⟩, hR => ⟨hR, h3, h1⟩
  | node s c u d, q, z, b, fs, ⟨h1, h2, h3⟩, hR => by
    simp only [minF]
    exact minF_rest c s u d _ h2 (fun f hf => by
      rcases List.mem_cons.1 hf with rfl | hf
      · exact ⟨⟨_, _, _, h1⟩, h3⟩
      · exact hR f hf)
theorem minF_places : ∀ (a : Tr) (q : Nat) (z : It) (b : Tr) (fs : List Fr), ((minF q a z b fs).1 :: ((minF q a z b fs).2.2.1.places ++ (minF q a z b fs).2.2.2.flatMap Fr.places)).Perm ((node q a z b).places ++ fs.flatMap Fr.places)
  | nil, q, z, b, fs => by simp [minF, places]
  | node s c u d, q, z, b, fs => by
    simp only [minF]
    refine (minF_places c s u d _).trans ?_
    simp only [List.flatMap_cons, Fr.places]
    rw [show (node q (node s c u d) z b).places = q :: ((node s c u d).places ++ b.places) from rfl]
    rw [List.cons_append, List.cons_append]
    refine List.perm_middle.trans (List.Perm.cons q ?_)
    rw [List.append_assoc]
theorem minF_len : ∀ (a : Tr) (q : Nat) (z : It) (b : Tr) (fs : List Fr), ((minF q a z b fs).2.2.2.length : Int) + 1 ≤ fs.length + (node q a z b).ht
  | nil, q, z, b, fs => by
    have := ht_nonneg b
    simp only [minF, ht]
    omega
  | node s c u d, q, z, b, fs => by
    have := minF_len c s u d (⟨q, false, z, b⟩ :: fs)
    simp only [minF, List.length_cons, ht] at this ⊢
    omega
end Tr
end Go.Proofs.YtngglpekdjhbdaaGreat

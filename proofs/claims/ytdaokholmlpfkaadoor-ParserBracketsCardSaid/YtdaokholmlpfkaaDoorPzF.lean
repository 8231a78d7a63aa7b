/- A region that draws its order and has two operations that write, not ordered among themselves: one plan for either order. -/
import Derived.Test.YtdaokholmlpfkaaDoorPzE
namespace Go.Proofs.YtdaokholmlpfkaaDoor
set_option linter.unusedSimpArgs false
set_option linter.unusedVariables false

/-- How many have not come up. -/
def cntOf (listed : Array Bool) : Nat → Nat
  | 0 => 0
  | n + 1 => cntOf listed n + if listed.getD n true then 0 else 1
theorem cnt_zero {listed : Array Bool} : ∀ {n : Nat}, cntOf listed n = 0 → ∀ j, j < n → listed.getD j true = true
  | 0, _, j, hj => by omega
  | n + 1, h, j, hj => by
    simp only [cntOf] at h
    by_cases hn : listed.getD n true = true
    · by_cases e : j = n
      · subst e; exact hn
      · exact cnt_zero (n := n) (by omega) j (by omega)
    · simp only [hn] at h
      simp at h
theorem cnt_set_ge {listed : Array Bool} {i : Nat} : ∀ {n : Nat}, n ≤ i → cntOf (listed.setIfInBounds i true) n = cntOf listed n
  | 0, _ => rfl
  | n + 1, h => by
    simp only [cntOf]
    rw [cnt_set_ge (n := n) (by omega), getD_set_ne true (by omega : i ≠ n)]
theorem cnt_set {listed : Array Bool} {i : Nat} (hi : listed.getD i true = false) (hs : i < listed.size) : ∀ {n : Nat}, i < n → cntOf (listed.setIfInBounds i true) n + 1 = cntOf listed n
  | 0, h => by omega
  | n + 1, h => by
    simp only [cntOf]
    by_cases e : i = n
    · subst e
      rw [cnt_set_ge (Nat.le_refl _), hi]
      simp [hs]
    · have ih := cnt_set hi hs (n := n) (by omega)
      rw [getD_set_ne true e]
      omega
theorem cnt_new : ∀ (n m : Nat), n ≤ m → cntOf (Array.replicate m false) n = n
  | 0, _, _ => rfl
  | n + 1, m, h => by
    simp only [cntOf]
    rw [cnt_new n m (by omega)]
    have : n < m := by omega
    simp [this]
theorem pair_or {f : Nat → Nat → Prop} : ∀ {is : List Nat}, is.Pairwise f → ∀ i ∈ is, ∀ k ∈ is, i ≠ k → f i k ∨ f k i
  | [], _, i, hi, _, _, _ => by cases hi
  | x :: is, h, i, hi, k, hk, hne => by
    obtain ⟨h1, h2⟩ := List.pairwise_cons.1 h
    rcases List.mem_cons.1 hi with e1 | hi <;> rcases List.mem_cons.1 hk with e2 | hk
    · exact absurd (e1.trans e2.symm) hne
    · exact .inl (e1 ▸ h1 k hk)
    · exact .inr (e2 ▸ h1 i hi)
    · exact pair_or h2 i hi k hk hne
theorem Act.ext' {a b : Act} (h1 : a.tmps = b.tmps) (h2 : a.defers = b.defers) : a = b := by
  cases a; cases b; simp at h1 h2; rw [h1, h2]

section
variable {P : Program} {l : List Oper} {segs : List (List Nat × Nat × List Nat)} {last : List Nat} {K : Act → World → Prop}
/-- Where the walk in order stands: ahead of the next operation that writes, or at the end. -/
def Stage (P : Program) (l : List Oper) (K : Act → World → Prop) (segs : List (List Nat × Nat × List Nat)) (last : List Nat) (todo : List Nat) (b : Act) (w : World) : Prop :=
  (∃ pre x cs rest, todo = x :: orderOf last rest ∧ (pre, x, cs) ∈ segs ∧ (∀ s ∈ rest, s ∈ segs) ∧
    wpList P l.toArray (Exit.then (fun a2 w2 => Again P l cs a2 w2 ∧ wpSegs P l K last rest a2 w2) NoExit) [opN l x] b w) ∨ (todo = [] ∧ K b w)

structure Facts (P : Program) (l : List Oper) (segs : List (List Nat × Nat × List Nat)) (last : List Nat) : Prop where
  pairs : (orderOf last segs).Pairwise (fun i k => pairAt l (tableOf l) segs i k = true)
  one : ∀ i ∈ orderOf last segs, oneAt P l (orderOf last segs) (xsOf segs) i = true
  all : ∀ i, i < l.length → i ∈ orderOf last segs
  lt : ∀ i ∈ orderOf last segs, i < l.length
  pre : ∀ s ∈ segs, ∀ i ∈ s.1, i ∉ xsOf segs
  last : ∀ i ∈ last, i ∉ xsOf segs
  cs : ∀ s ∈ segs, csAt segs s.2.1 = s.2.2
theorem facts_of (h : planOk P l segs last = true) : Facts P l segs last := by
  simp only [planOk, Bool.and_eq_true, List.all_eq_true, beq_iff_eq, decide_eq_true_eq, Bool.not_eq_true', List.contains_eq_mem, decide_eq_false_iff_not] at h
  obtain ⟨⟨⟨⟨⟨⟨⟨h1, h2⟩, h3⟩, h4⟩, h5⟩, h6⟩, h7⟩, h8⟩ := h
  exact ⟨pairsAt_spec h4, h5, fun i hi => h3 i (List.mem_range.2 hi), h2, h6, h7, h8⟩
theorem Facts.sel (F : Facts P l segs last) {i : Nat} (hi : i ∈ orderOf last segs) : ∀ cs x, (opN l i).op ≠ .select cs x := by
  have := F.one i hi
  simp only [oneAt, Bool.and_eq_true] at this
  exact noSel_spec this.1.1.2
theorem Facts.self (F : Facts P l segs last) {i : Nat} (hi : i ∈ orderOf last segs) : selfAt l i = true := by
  have := F.one i hi
  simp only [oneAt, Bool.and_eq_true] at this
  exact this.1.1.1
theorem Facts.mild (F : Facts P l segs last) {i : Nat} (hi : i ∈ orderOf last segs) (hx : i ∉ xsOf segs) : mild P (opN l i) = true := by
  have := F.one i hi
  simp only [oneAt, Bool.and_eq_true, Bool.or_eq_true, List.contains_eq_mem, decide_eq_true_eq] at this
  exact this.1.2.resolve_right hx
theorem Facts.edge (F : Facts P l segs last) {i : Nat} (hi : i ∈ orderOf last segs) {e : Edge} (he : e ∈ (opN l i).after) (hb : Region.binds .any e = true) : e.on ∈ orderOf last segs ∧ e.on ≠ i := by
  have := F.one i hi
  simp only [oneAt, Bool.and_eq_true, List.all_eq_true] at this
  have h := this.2 e (by simpa using he)
  simpa [hb] using h
theorem pairAt_apart' {T : List Nat} {i k : Nat} (h : pairAt l T segs i k = true) : apartAt l i k = true ∨ (k ∈ xsOf segs ∧ (T.getD k 0).testBit i = true) := by
  simp only [pairAt, Bool.and_eq_true, Bool.or_eq_true] at h
  rcases h.1.1.1.1.2 with h | ⟨h1, h2⟩
  · exact .inl h
  · exact .inr ⟨by simpa using h1, h2⟩
theorem pairAt_apart {T : List Nat} {i k : Nat} (h : pairAt l T segs i k = true) (hk : k ∉ xsOf segs) : apartAt l i k = true := (pairAt_apart' h).resolve_right fun h => hk h.1
theorem pairAt_ne {T : List Nat} {i k : Nat} (h : pairAt l T segs i k = true) : i ≠ k := by
  simp only [pairAt, Bool.and_eq_true] at h
  simpa using h.1.1.1.1.1
theorem pairAt_looks {T : List Nat} {i k : Nat} (h : pairAt l T segs i k = true) {d : Nat} (hd : (opN l i).dst = some d) (hl : d ∈ looks l k) : (T.getD k 0).testBit i = true := by
  simp only [pairAt, Bool.and_eq_true] at h
  have := h.1.1.1.2
  rw [hd] at this
  simp only [Bool.or_eq_true, Bool.not_eq_true', List.contains_eq_mem, decide_eq_false_iff_not] at this
  exact this.resolve_left (fun hn => hn hl)
theorem pairAt_x {T : List Nat} {i k : Nat} (h : pairAt l T segs i k = true) (hx : i ∈ xsOf segs) : (T.getD k 0).testBit i = true := by
  simp only [pairAt, Bool.and_eq_true] at h
  have := h.1.1.2
  simpa [hx] using this
theorem pairAt_kx {T : List Nat} {i k : Nat} (h : pairAt l T segs i k = true) (hx : k ∈ xsOf segs) : (T.getD k 0).testBit i = true ∨ bare (opN l i) = true ∨ i ∈ csAt segs k := by
  simp only [pairAt, Bool.and_eq_true] at h
  have := h.1.2
  simpa [hx, or_assoc] using this
theorem pairAt_edge {T : List Nat} {i k : Nat} (h : pairAt l T segs i k = true) {e : Edge} (he : e ∈ (opN l i).after) (hb : Region.binds .any e = true) : e.on ≠ k := by
  simp only [pairAt, Bool.and_eq_true, List.all_eq_true] at h
  have := h.2 e (by simpa using he)
  simpa [hb] using this

theorem advance (F : Facts P l segs last) : ∀ (rest : List (List Nat × Nat × List Nat)) (done : List Nat) (b : Act) (w : World), done ++ orderOf last rest = orderOf last segs → (∀ s ∈ rest, s ∈ segs) →
    wpSegs P l K last rest b w → ∃ b' pre todo, orderOf last rest = pre ++ todo ∧ (∀ i ∈ pre, ∃ v, Pend P l (opN l i) b' w v ∧ b'.put (opN l i).dst v = b') ∧ SameBut (pre.map fun i => (opN l i).dst) b b' ∧ Stage P l K segs last todo b' w ∧ ∀ i ∈ pre, i ∉ xsOf segs := by
  intro rest done b w hord hsub h
  cases rest with
  | nil =>
    simp only [orderOf] at hord ⊢
    simp only [wpSegs] at h
    have hmem : ∀ i ∈ last, i ∈ orderOf last segs := fun i hi => by rw [← hord]; simp [hi]
    obtain ⟨_, h2⟩ := pre_take (R := K) (w0 := w) last b w (fun i hi => F.mild (hmem i hi) (F.last i hi)) (fun i hi => F.self (hmem i hi)) (fun i hi => by
      have := F.one i (hmem i hi); simp only [oneAt, Bool.and_eq_true] at this; exact this.1.1.2)
      (by have := F.pairs; rw [← hord] at this; exact ((List.pairwise_append.1 this).2.1).imp_of_mem fun _ hk hp => pairAt_apart hp (F.last _ hk)) h
    obtain ⟨b', hK, hall, hsb⟩ := h2 rfl
    exact ⟨b', last, [], by simp, hall, hsb, .inr ⟨rfl, hK⟩, F.last⟩
  | cons s rest =>
    obtain ⟨pre, x, cs⟩ := s
    simp only [orderOf] at hord ⊢
    simp only [wpSegs] at h
    have hmem : ∀ i ∈ pre, i ∈ orderOf last segs := fun i hi => by rw [← hord]; simp [hi]
    obtain ⟨_, h2⟩ := pre_take (R := fun a1 w1 => wpList P l.toArray (Exit.then (fun a2 w2 => Again P l cs a2 w2 ∧ wpSegs P l K last rest a2 w2) NoExit) [opN l x] a1 w1) (w0 := w) pre b w
      (fun i hi => F.mild (hmem i hi) (F.pre (pre, x, cs) (hsub _ (by simp)) i hi)) (fun i hi => F.self (hmem i hi)) (fun i hi => by
        have := F.one i (hmem i hi); simp only [oneAt, Bool.and_eq_true] at this; exact this.1.1.2)
      (by have := F.pairs; rw [← hord] at this; exact ((List.pairwise_append.1 (List.pairwise_append.1 this).2.1).1).imp_of_mem fun _ hk hp => pairAt_apart hp (F.pre (pre, x, cs) (hsub _ (by simp)) _ hk)) h
    obtain ⟨b', hK, hall, hsb⟩ := h2 rfl
    exact ⟨b', pre, x :: orderOf last rest, rfl, hall, hsb, .inl ⟨pre, x, cs, rest, rfl, hsub _ (by simp), fun s hs => hsub s (by simp [hs]), hK⟩, F.pre (pre, x, cs) (hsub _ (by simp))⟩

/-- Where the run in whatever order stands. -/
structure Inv (P : Program) (l : List Oper) (K : Act → World → Prop) (segs : List (List Nat × Nat × List Nat)) (last : List Nat) (listed : Array Bool) (a : Act) (w : World) (done todo : List Nat) (b : Act) : Prop where
  size : listed.size = l.length
  closed : Closed l (fun j => listed.getD j false = true)
  order : done ++ todo = orderOf last segs
  unl : ∀ i ∈ todo, listed.getD i false = false
  pend : ∀ i ∈ done, listed.getD i false = false → ∃ v, Pend P l (opN l i) b w v ∧ b.put (opN l i).dst v = b
  defers : a.defers = b.defers
  tmps : a.tmps.size = b.tmps.size
  slot : ∀ s, (∀ i ∈ done, listed.getD i false = false → (opN l i).dst ≠ some s) → a.tmps[s]? = b.tmps[s]?
  stage : Stage P l K segs last todo b w
  xl : ∀ k ∈ done, k ∈ xsOf segs → listed.getD k false = true

theorem closed_set {listed : Array Bool} (h : Closed l (fun j => listed.getD j false = true)) {i : Nat} {o : Oper} (ho : l[i]? = some o) (hall : ∀ e ∈ o.after, Region.binds .any e = true → listed.getD e.on false = true) :
    Closed l (fun j => (listed.setIfInBounds i true).getD j false = true) := by
  intro j q hq hj e he hb
  by_cases hij : i = j
  · subst hij
    rw [ho] at hq
    cases hq
    exact getD_set_true (hall e he hb)
  · rw [getD_set_ne false hij] at hj
    exact getD_set_true (h j q hq hj e he hb)

theorem wpAny_of_inv {Q : Exit → Act → World → Prop} (F : Facts P l segs last) : ∀ (fuel : Nat) (listed : Array Bool) (a : Act) (w : World) (done todo : List Nat) (b : Act),
    cntOf listed l.length ≤ fuel → Inv P l (fun a w => Q .normal a w) segs last listed a w done todo b → wpAny P .any l.toArray Q fuel listed a w := by
  intro fuel
  induction fuel with
  | zero =>
    intro listed a w done todo b hc I
    have hall : ∀ i ∈ orderOf last segs, listed.getD i false = true := fun i hi => by
      have hlt := F.lt i hi
      have := cnt_zero (Nat.le_zero.1 hc) i hlt
      have hs : i < listed.size := by rw [I.size]; exact hlt
      simpa [hs] using this
    have hready : Region.ready .any l.toArray listed = [] := by
      cases hr : Region.ready .any l.toArray listed with
      | nil => rfl
      | cons x xs =>
        have hx : x ∈ Region.ready .any l.toArray listed := by rw [hr]; simp
        obtain ⟨h0, o, ho, _⟩ := mem_ready.1 hx
        have hlt : x < l.length := by have := (List.getElem?_eq_some_iff.1 (by simpa using ho)).1; exact this
        have := cnt_zero (Nat.le_zero.1 hc) x hlt
        rw [this] at h0
        cases h0
    refine ⟨hready, ?_⟩
    rcases I.stage with ⟨pre, x, cs, rest, rfl, _⟩ | ⟨rfl, hK⟩
    · have h1 := I.unl x (by simp)
      have h2 := hall x (by rw [← I.order]; simp)
      rw [h2] at h1
      cases h1
    · have e : a = b := Act.ext' (by
        apply Array.ext_getElem?
        intro s
        refine I.slot s fun i hi hn => ?_
        have := hall i (by rw [← I.order]; simp [hi])
        rw [this] at hn
        cases hn) I.defers
      rw [e]
      exact hK
  | succ fuel ih =>
    intro listed a w done todo b hc I
    constructor
    · intro hready
      have hall : ∀ (q p : List Nat), orderOf last segs = p ++ q → (∀ i ∈ p, listed.getD i false = true) → ∀ i ∈ q, listed.getD i false = true := by
        intro q
        induction q with
        | nil => intro p _ _ i hi; cases hi
        | cons x q ihq =>
          intro p hp hpl
          have hx : listed.getD x false = true := by
            cases hxl : listed.getD x false with
            | true => rfl
            | false =>
              have hxo : x ∈ orderOf last segs := by rw [hp]; simp
              have hlt := F.lt x hxo
              have hs : x < listed.size := by rw [I.size]; exact hlt
              have hr : x ∈ Region.ready .any l.toArray listed := mem_ready.2 ⟨by simpa [hs] using hxl, l[x], by simp [hlt], fun e he hb => by
                have hop : opN l x = l[x] := by simp [opN, List.getD, hlt]
                obtain ⟨h1, h2⟩ := F.edge hxo (e := e) (by rw [hop]; exact he) hb
                rw [hp] at h1
                rcases List.mem_append.1 h1 with h1 | h1
                · exact hpl _ h1
                · rcases List.mem_cons.1 h1 with h1 | h1
                  · exact absurd h1 h2
                  · have hpw := F.pairs
                    rw [hp] at hpw
                    have := (List.pairwise_cons.1 (List.pairwise_append.1 hpw).2.1).1 _ h1
                    exact absurd rfl (pairAt_edge this (e := e) (by rw [hop]; exact he) hb)⟩
              rw [hready] at hr
              cases hr
          intro i hi
          rcases List.mem_cons.1 hi with rfl | hi
          · exact hx
          · exact ihq (p ++ [x]) (by rw [hp]; simp) (fun i hi => by
              rcases List.mem_append.1 hi with hi | hi
              · exact hpl i hi
              · rw [List.mem_singleton.1 hi]; exact hx) i hi
      have hall' := hall (orderOf last segs) [] rfl (by simp)
      rcases I.stage with ⟨pre, x, cs, rest, rfl, _⟩ | ⟨rfl, hK⟩
      · have h1 := I.unl x (by simp)
        have h2 := hall' x (by rw [← I.order]; simp)
        rw [h2] at h1
        cases h1
      · have e : a = b := Act.ext' (by
          apply Array.ext_getElem?
          intro s
          refine I.slot s fun i hi hn => ?_
          have := hall' i (by rw [← I.order]; simp [hi])
          rw [this] at hn
          cases hn) I.defers
        rw [e]
        exact hK
    · intro i hi
      obtain ⟨hun, o, ho, hedges⟩ := mem_ready.1 hi
      have ho' : l[i]? = some o := by simpa using ho
      have hlt : i < l.length := (List.getElem?_eq_some_iff.1 ho').1
      have hop : opN l i = o := by simp [opN, List.getD, ho']
      have hs : i < listed.size := by rw [I.size]; exact hlt
      have hunf : listed.getD i false = false := by simpa [hs] using hun
      have hio : i ∈ orderOf last segs := F.all i hlt
      have hcl := closed_set I.closed ho' hedges
      have hset : (listed.setIfInBounds i true).getD i false = true := by simp [hs]
      have hsz : (listed.setIfInBounds i true).size = l.length := by simpa using I.size
      have hcnt : cntOf (listed.setIfInBounds i true) l.length ≤ fuel := by have := cnt_set hun hs hlt; omega
      have hunl : ∀ k, (listed.setIfInBounds i true).getD k false = false → k ≠ i ∧ listed.getD k false = false := fun k hk => by
        have hki : k ≠ i := fun e => by rw [e, hset] at hk; cases hk
        rw [getD_set_ne false (Ne.symm hki)] at hk
        exact ⟨hki, hk⟩
      have hbit : ∀ k, ((tableOf l).getD i 0).testBit k = true → k ≠ i → listed.getD k false = false → False := fun k hb hki hk => by
        have := tableOf_spec hcl hb hset
        rw [getD_set_ne false (Ne.symm hki), hk] at this
        cases this
      -- what i looks at is the same in both frames
      have hagree : AgreeOn l (opN l i) a b := fun t ht => I.slot t fun k hk hkn hd => by
        have hko : k ∈ orderOf last segs := by rw [← I.order]; simp [hk]
        by_cases hki : k = i
        · subst hki
          exact selfAt_spec (F.self hio) hd ht
        · rcases pair_or F.pairs k hko i hio hki with hp | hp
          · exact hbit k (pairAt_looks hp hd ht) hki hkn
          · rcases pairAt_apart' hp with hp | hp
            · exact (apartAt_spec hp hd).1 ht
            · have := I.xl k hk hp.1
              rw [hkn] at this
              cases this
      have himem : i ∈ done ∨ i ∈ todo := by rw [← I.order] at hio; exact List.mem_append.1 hio
      unfold wpOp
      simp only [ho]
      rcases himem with hid | hit
      · -- one that reads
        obtain ⟨v, hv, hput⟩ := I.pend i hid hunf
        have hva := hv.agree (F.sel hio) hagree
        rw [hop] at hva hput
        have goal : wpAny P .any l.toArray Q fuel (listed.setIfInBounds i true) (a.put o.dst v) w := by
          refine ih _ _ _ done todo b hcnt ⟨hsz, hcl, I.order, ?_, ?_, ?_, ?_, ?_, I.stage, fun k hk hx => getD_set_true (I.xl k hk hx)⟩
          · intro k hk
            have hne : i ≠ k := fun e => by
              subst e
              have hpw := F.pairs
              rw [← I.order] at hpw
              exact absurd rfl (pairAt_ne ((List.pairwise_append.1 hpw).2.2 i hid i hk))
            rw [getD_set_ne false hne]
            exact I.unl k hk
          · intro k hk hkn
            exact I.pend k hk (hunl k hkn).2
          · rw [put_defers]; exact I.defers
          · rw [put_size]; exact I.tmps
          · intro s hsl
            by_cases hd : o.dst = some s
            · by_cases hlt' : s < a.tmps.size
              · rw [hd, put_slot_eq a s v hlt']
                exact (put_self_slot hput hd (by rw [← I.tmps]; exact hlt')).symm
              · have h1 : (a.put o.dst v).tmps.size ≤ s := by rw [put_size]; exact Nat.le_of_not_lt hlt'
                have h2 : b.tmps.size ≤ s := by rw [← I.tmps]; exact Nat.le_of_not_lt hlt'
                rw [Array.getElem?_eq_none h1, Array.getElem?_eq_none h2]
            · rw [put_slot_ne _ _ _ _ hd]
              refine I.slot s fun k hk hkn => ?_
              by_cases hki : k = i
              · subst hki; rw [hop]; exact hd
              · exact hsl k hk (by rw [getD_set_ne false (Ne.symm hki)]; exact hkn)
        rcases hva with ⟨hw, hr⟩ | ⟨hw, rfl⟩
        · rw [if_pos hw]
          refine .inl ?_
          unfold Oper.wp
          rw [hr]
          exact goal
        · rw [if_neg (by rw [hw]; simp)]
          exact goal
      · -- the one that writes
        rcases I.stage with ⟨pre, x, cs, rest, htodo, hseg, hsub, hx⟩ | ⟨rfl, _⟩
        · subst htodo
          have hxx : x ∈ xsOf segs := List.mem_map.2 ⟨_, hseg, rfl⟩
          have hxun := I.unl x (by simp)
          have hpw := F.pairs
          rw [← I.order] at hpw
          obtain ⟨_, hpt, hpd⟩ := List.pairwise_append.1 hpw
          have hptx := (List.pairwise_cons.1 hpt).1
          have hix : i = x := by
            rcases List.mem_cons.1 hit with e | hit'
            · exact e
            · have hp := hptx i hit'
              exact (hbit x (pairAt_x hp hxx) (pairAt_ne hp) hxun).elim
          subst hix
          -- behind it
          have hcont : ∀ v ds w2, (Again P l cs { tmps := (b.put o.dst v).tmps, defers := ds } w2 ∧ wpSegs P l (fun a w => Q .normal a w) last rest { tmps := (b.put o.dst v).tmps, defers := ds } w2) →
              wpAny P .any l.toArray Q fuel (listed.setIfInBounds i true) { tmps := (a.put o.dst v).tmps, defers := ds } w2 := by
            rintro v ds w2 ⟨hag, hws⟩
            obtain ⟨b3, pre', todo', hord', hall', hsb, hst, hpx⟩ := advance F rest (done ++ [i]) _ w2 (by rw [← I.order]; simp) hsub hws
            have hkt : ∀ k ∈ pre' ++ todo', k ≠ i ∧ listed.getD k false = false := fun k hk => by
              rw [← hord'] at hk
              exact ⟨(pairAt_ne (hptx k hk)).symm, I.unl k (by simp [hk])⟩
            refine ih _ _ _ (done ++ i :: pre') todo' b3 hcnt ⟨hsz, hcl, ?_, ?_, ?_, ?_, ?_, ?_, hst, fun k hk hkx => by
              rcases List.mem_append.1 hk with hk | hk
              · exact getD_set_true (I.xl k hk hkx)
              · rcases List.mem_cons.1 hk with rfl | hk
                · exact hset
                · exact absurd hkx (hpx k hk)⟩
            · rw [← I.order, hord']; simp
            · intro k hk
              obtain ⟨h1, h2⟩ := hkt k (by simp [hk])
              rw [getD_set_ne false (Ne.symm h1)]
              exact h2
            · intro k hk hkn
              obtain ⟨hki, hkl⟩ := hunl k hkn
              rcases List.mem_append.1 hk with hk | hk
              · -- read ahead of it, and not come up
                have hko : k ∈ orderOf last segs := by rw [← I.order]; simp [hk]
                obtain ⟨u, hu, hput⟩ := I.pend k hk hkl
                have hp := hpd k hk i (by simp)
                have hapx : apartAt l k i = true := (pairAt_apart' hp).resolve_right fun h => hbit k h.2 hki hkl
                have hdx : ∀ d, o.dst = some d → d ∉ looks l k ∧ (opN l k).dst ≠ some d := fun d hd => apartAt_spec hapx (by rw [hop]; exact hd)
                have hag2 : AgreeOn l (opN l k) { tmps := (b.put o.dst v).tmps, defers := ds } b := fun t ht => put_slot_ne _ _ _ _ fun e => (hdx t e).1 ht
                have hself2 : ∀ u, b.put (opN l k).dst u = b → ({ tmps := (b.put o.dst v).tmps, defers := ds } : Act).put (opN l k).dst u = { tmps := (b.put o.dst v).tmps, defers := ds } := fun u hu => put_self fun s hd hlt2 => by
                  have e1 : (b.put o.dst v).tmps[s]? = b.tmps[s]? := put_slot_ne _ _ _ _ fun e => (hdx s e).2 hd
                  rw [e1]
                  exact put_self_slot hu hd (by rw [put_size] at hlt2; exact hlt2)
                have h2 : ∃ u2, Pend P l (opN l k) { tmps := (b.put o.dst v).tmps, defers := ds } w2 u2 ∧ ({ tmps := (b.put o.dst v).tmps, defers := ds } : Act).put (opN l k).dst u2 = { tmps := (b.put o.dst v).tmps, defers := ds } := by
                  rcases hu with ⟨hw, hr⟩ | ⟨hw, rfl⟩
                  · rcases pairAt_kx hp hxx with hb | hb | hb
                    · exact (hbit k hb hki hkl).elim
                    · exact ⟨u, .inl ⟨by rw [wanted_agree hag2]; exact hw, by rw [exec_agree (F.sel hko) hag2]; exact bare_run hb hr w2⟩, hself2 u hput⟩
                    · rw [F.cs _ hseg] at hb
                      exact ⟨_, .inl ⟨by rw [wanted_agree hag2]; exact hw, hag k hb (by rw [wanted_agree hag2]; exact hw)⟩, put_slotOf _ _⟩
                  · exact ⟨undef, .inr ⟨by rw [wanted_agree hag2]; exact hw, rfl⟩, hself2 undef hput⟩
                obtain ⟨u2, hu2, hput2⟩ := h2
                have hlater : ∀ k' ∈ pre', apartAt l k k' = true := fun k' hk' => pairAt_apart (hpd k hk k' (by rw [hord']; simp [hk'])) (hpx k' hk')
                have hag3 : AgreeOn l (opN l k) b3 { tmps := (b.put o.dst v).tmps, defers := ds } := fun t ht => hsb.slot t fun hm => by
                  obtain ⟨k', hk', e⟩ := List.mem_map.1 hm
                  exact (apartAt_spec (hlater k' hk') e).1 ht
                refine ⟨u2, hu2.agree (F.sel hko) hag3, put_self fun s hd hlt2 => ?_⟩
                rw [hsb.slot s fun hm => by
                  obtain ⟨k', hk', e⟩ := List.mem_map.1 hm
                  exact (apartAt_spec (hlater k' hk') e).2 hd]
                exact put_self_slot hput2 hd (by rw [← hsb.size]; exact hlt2)
              · rcases List.mem_cons.1 hk with rfl | hk
                · exact absurd rfl hki
                · exact hall' k hk
            · rw [hsb.defers]
            · rw [hsb.size, put_size, put_size]; exact I.tmps
            · intro s hsl
              rw [hsb.slot s fun hm => by
                obtain ⟨k', hk', e⟩ := List.mem_map.1 hm
                obtain ⟨h1, h2⟩ := hkt k' (by simp [hk'])
                exact hsl k' (by simp [hk']) (by rw [getD_set_ne false (Ne.symm h1)]; exact h2) e]
              show (a.put o.dst v).tmps[s]? = (b.put o.dst v).tmps[s]?
              by_cases hd : o.dst = some s
              · by_cases hlt' : s < a.tmps.size
                · rw [hd, put_slot_eq a s v hlt', put_slot_eq b s v (by rw [← I.tmps]; exact hlt')]
                · have h1 : (a.put o.dst v).tmps.size ≤ s := by rw [put_size]; exact Nat.le_of_not_lt hlt'
                  have h2 : (b.put o.dst v).tmps.size ≤ s := by rw [put_size, ← I.tmps]; exact Nat.le_of_not_lt hlt'
                  rw [Array.getElem?_eq_none h1, Array.getElem?_eq_none h2]
              · rw [put_slot_ne _ _ _ _ hd, put_slot_ne _ _ _ _ hd]
                refine I.slot s fun k hk hkn => ?_
                have hki : k ≠ i := fun e => by
                  subst e
                  exact absurd rfl (pairAt_ne (hpd k hk k (by simp)))
                exact hsl k (by simp [hk]) (by rw [getD_set_ne false (Ne.symm hki)]; exact hkn)
          have hwant : Region.wanted (opN l i) (yielded l.toArray a.tmps) = Region.wanted (opN l i) (yielded l.toArray b.tmps) := wanted_agree hagree
          rw [hop] at hwant hx
          simp only [wpList] at hx
          rw [hwant]
          split
          · rename_i hw
            rw [if_pos hw] at hx
            rcases hx with hx | ⟨_, _, _, hF⟩
            · rw [hop] at hagree
              have hsel := F.sel hio
              rw [hop] at hsel
              refine .inl (Oper.wp_mono ?_ (wp_shift hsel hagree I.defers hx))
              rintro a2 w2 ⟨v, ds, rfl, hk⟩
              exact hcont v ds w2 hk
            · exact hF.elim
          · rename_i hw
            rw [if_neg hw] at hx
            have form : ∀ (x : Act) v, x.put o.dst v = { tmps := (x.put o.dst v).tmps, defers := x.defers } := fun x v => by cases o.dst <;> rfl
            rw [form a undef, I.defers]
            refine hcont undef b.defers w ?_
            rw [← form b undef]
            exact hx
        · cases hit
theorem again_nil {a : Act} {w : World} : Again P l [] a w := fun _ h => by cases h
/-- THE RULE. -/
theorem wp_plan {id : Nat} {Q : Exit → Act → World → Prop} {a : Act} {w : World} (segs : List (List Nat × Nat × List Nat)) (last : List Nat) (hm : P.follows .mixedOrders = true) (hok : planOk P l segs last = true)
    (h : wpSegs P l (fun a w => Q .normal a w) last segs a w.drew) : (Code.region id l.toArray true).wp P Q a w := by
  have F := facts_of hok
  refine wp_region_any hm ?_
  show wpAny P .any l.toArray Q l.toArray.size (Array.replicate l.toArray.size false) a w.drew
  obtain ⟨b, pre, todo, hord, hall, hsb, hst, hpx⟩ := advance F segs [] a w.drew rfl (fun s hs => hs) h
  have hf : ∀ i, (Array.replicate l.toArray.size false).getD i false = false := fun i => by
    rw [Array.getD_eq_getD_getElem?, Array.getElem?_replicate]; split <;> rfl
  refine wpAny_of_inv F _ _ _ _ pre todo b (by rw [cnt_new _ _ (by simp)]; simp) ⟨by simp, ?_, hord.symm, fun i _ => hf i, fun i hi _ => hall i hi, hsb.defers.symm, hsb.size.symm, ?_, hst, fun k hk hkx => absurd hkx (hpx k hk)⟩
  · intro j o _ hj
    rw [hf j] at hj
    cases hj
  · intro s hs
    refine (hsb.slot s fun hmem => ?_).symm
    obtain ⟨k, hk, e⟩ := List.mem_map.1 hmem
    exact hs k hk (hf k) e
end
end Go.Proofs.YtdaokholmlpfkaaDoor
namespace Go.Proofs.YtdaokholmlpfkaaDoor
set_option linter.unusedSimpArgs false
set_option linter.unusedVariables false

/-- k waits for i, too -/
def waits (l : List Oper) (k i : Nat) : List Oper := l.modify k fun o => { o with after := o.after.push { on := i, ground := .data } }
theorem waits_length (l : List Oper) (k i : Nat) : (waits l k i).length = l.length := by simp [waits]
theorem waits_get (l : List Oper) (k i j : Nat) : (waits l k i)[j]? = (l[j]?).map fun o => if k = j then { o with after := o.after.push { on := i, ground := .data } } else o := by
  unfold waits
  rw [List.getElem?_modify]
  cases l[j]? with
  | none => rfl
  | some o =>
    simp only [Option.map_some, Option.map_eq_map]
theorem waits_yielded (l : List Oper) (k i : Nat) (tmps : Array Value) : yielded (waits l k i).toArray tmps = yielded l.toArray tmps := by
  funext j
  unfold yielded
  have e : ((waits l k i).toArray[j]?).bind (·.dst) = (l.toArray[j]?).bind (·.dst) := by
    simp only [List.getElem?_toArray, waits_get]
    cases l[j]? with
    | none => rfl
    | some o =>
      simp only [Option.map_some, Option.bind_some]
      split <;> rfl
  rw [e]
section
variable {P : Program} {l : List Oper} {Q : Exit → Act → World → Prop}
theorem waits_wpOp {k i j : Nat} {K : Act → World → Prop} {a : Act} {w : World} (h : wpOp P (waits l k i).toArray Q j K a w) : wpOp P l.toArray Q j K a w := by
  unfold wpOp at h ⊢
  simp only [List.getElem?_toArray, waits_get, waits_yielded] at h ⊢
  cases hj : l[j]? with
  | none => rw [hj] at h; exact h
  | some o =>
    rw [hj] at h
    simp only [Option.map_some] at h ⊢
    by_cases e : k = j
    · rw [if_pos e] at h
      exact h
    · rw [if_neg e] at h
      exact h
theorem waits_wpOps {k i : Nat} : ∀ (L : List Nat) {a : Act} {w : World}, wpOps P (waits l k i).toArray Q L a w → wpOps P l.toArray Q L a w
  | [], a, w, h => h
  | j :: L, a, w, h => by
    rw [wpOps_cons] at h ⊢
    exact waits_wpOp (wpOp_mono (fun a w => waits_wpOps L) h)
/-- An order that may be drawn. -/
def PathF (l : List Oper) : Nat → Array Bool → List Nat → Prop
  | 0, _, L => L = []
  | _ + 1, listed, [] => Region.ready .any l.toArray listed = []
  | f + 1, listed, j :: L => j ∈ Region.ready .any l.toArray listed ∧ PathF l f (listed.setIfInBounds j true) L
theorem wpAny_path : ∀ (f : Nat) (listed : Array Bool) (L : List Nat) (a : Act) (w : World), wpAny P .any l.toArray Q f listed a w → PathF l f listed L → wpOps P l.toArray Q L a w
  | 0, listed, L, a, w, h, hp => by
    have : L = [] := hp
    subst this
    exact h.2
  | f + 1, listed, [], a, w, h, hp => h.1 hp
  | f + 1, listed, j :: L, a, w, h, hp => by
    rw [wpOps_cons]
    exact wpOp_mono (fun a w h' => wpAny_path f _ L a w h' hp.2) (h.2 j hp.1)
theorem path_lin : ∀ (f t : Nat) (listed : Array Bool), PathF l f listed (Region.linearise.go .any l.toArray f t listed [])
  | 0, t, listed => by simp [PathF, Region.linearise.go]
  | f + 1, t, listed => by
    simp only [Region.linearise.go]
    change PathF l (f + 1) listed (match (Region.ready .any l.toArray listed)[t % (Region.ready .any l.toArray listed).length]? with
      | some i => Region.linearise.go .any l.toArray f (t / (Region.ready .any l.toArray listed).length) (listed.setIfInBounds i true) [i]
      | none => [].reverse)
    cases hi : (Region.ready .any l.toArray listed)[t % (Region.ready .any l.toArray listed).length]? with
    | none =>
      have hnil : Region.ready .any l.toArray listed = [] := by
        cases hr : Region.ready .any l.toArray listed with
        | nil => rfl
        | cons x xs =>
          rw [hr] at hi
          have hlt : t % (x :: xs).length < (x :: xs).length := Nat.mod_lt _ (by simp)
          simp at hi
          simp at hlt
          omega
      exact hnil
    | some i =>
      simp only []
      rw [linearise_go_acc, List.reverse_singleton, List.singleton_append]
      exact ⟨List.mem_of_getElem? hi, path_lin f _ _⟩
theorem ready_waits {k i : Nat} {listed : Array Bool} {j : Nat} (h : j ∈ Region.ready .any l.toArray listed) (hj : j ≠ k ∨ listed.getD i false = true) : j ∈ Region.ready .any (waits l k i).toArray listed := by
  obtain ⟨h1, o, ho, h2⟩ := mem_ready.1 h
  have ho' : l[j]? = some o := by simpa using ho
  by_cases e : k = j
  · refine mem_ready.2 ⟨h1, { o with after := o.after.push { on := i, ground := .data } }, by simp [waits_get, ho', e], ?_⟩
    intro e' he' hb
    rcases Array.mem_push.1 he' with he' | rfl
    · exact h2 e' he' hb
    · rcases hj with hj | hj
      · exact absurd e.symm hj
      · exact hj
  · exact mem_ready.2 ⟨h1, o, by simp [waits_get, ho', e], h2⟩
theorem ready_of_waits {k i : Nat} {listed : Array Bool} {j : Nat} (h : j ∈ Region.ready .any (waits l k i).toArray listed) : j ∈ Region.ready .any l.toArray listed := by
  obtain ⟨h1, o, ho, h2⟩ := mem_ready.1 h
  have ho' : (waits l k i)[j]? = some o := by simpa using ho
  rw [waits_get] at ho'
  cases hq : l[j]? with
  | none => rw [hq] at ho'; cases ho'
  | some q =>
    rw [hq] at ho'
    simp only [Option.map_some, Option.some.injEq] at ho'
    refine mem_ready.2 ⟨h1, q, by simp [hq], fun e he hb => h2 e ?_ hb⟩
    rw [← ho']
    split
    · exact Array.mem_push.2 (.inl he)
    · exact he
def Before (i k : Nat) (L : List Nat) : Prop := ∀ p q, L = p ++ k :: q → i ∈ p
theorem before_or {i k : Nat} (hik : i ≠ k) : ∀ L : List Nat, Before i k L ∨ Before k i L
  | [] => .inl fun p q h => by simp at h
  | j :: L => by
    by_cases hi : j = i
    · refine .inl fun p q h => ?_
      cases p with
      | nil => simp at h; exact absurd (hi.symm.trans h.1) hik
      | cons x p => simp at h; simp [← h.1, hi]
    · by_cases hk : j = k
      · refine .inr fun p q h => ?_
        cases p with
        | nil => simp at h; exact absurd (hk.symm.trans h.1) hik.symm
        | cons x p => simp at h; simp [← h.1, hk]
      · rcases before_or hik L with h | h
        · refine .inl fun p q e => ?_
          cases p with
          | nil => simp at e; exact absurd e.1 hk
          | cons x p => simp at e; exact List.mem_cons_of_mem _ (h p q e.2)
        · refine .inr fun p q e => ?_
          cases p with
          | nil => simp at e; exact absurd e.1 hi
          | cons x p => simp at e; exact List.mem_cons_of_mem _ (h p q e.2)
theorem path_waits {k i : Nat} : ∀ (f : Nat) (listed : Array Bool) (L : List Nat), listed.size = l.length → (listed.getD i false = true ∨ Before i k L) → PathF l f listed L → PathF (waits l k i) f listed L
  | 0, listed, L, _, _, h => h
  | f + 1, listed, [], _, _, h => by
    have h' : Region.ready .any l.toArray listed = [] := h
    show Region.ready .any (waits l k i).toArray listed = []
    apply List.eq_nil_iff_forall_not_mem.2
    intro j hj
    have := ready_of_waits hj
    rw [h'] at this
    cases this
  | f + 1, listed, j :: L, hs, hb, h => by
    obtain ⟨h1, h2⟩ := h
    have hj : j < l.length := by
      obtain ⟨_, o, ho, _⟩ := mem_ready.1 h1
      have := (List.getElem?_eq_some_iff.1 (by simpa using ho : l[j]? = some o)).1
      exact this
    refine ⟨ready_waits h1 ?_, path_waits f _ L (by simpa using hs) ?_ h2⟩
    · rcases hb with hb | hb
      · exact .inr hb
      · left
        rintro rfl
        have := hb [] L rfl
        cases this
    · rcases hb with hb | hb
      · exact .inl (getD_set_true hb)
      · by_cases e : j = i
        · left
          subst e
          simp [hs, hj]
        · right
          intro p q hL
          have := hb (j :: p) q (by rw [hL]; rfl)
          rcases List.mem_cons.1 this with h | h
          · exact absurd h.symm e
          · exact h
/-- Whatever order is drawn. -/
def Sched (P : Program) (l : List Oper) (Q : Exit → Act → World → Prop) (a : Act) (w : World) : Prop := ∀ L, PathF l l.length (Array.replicate l.length false) L → wpOps P l.toArray Q L a w
theorem sched_either (i k : Nat) (hik : i ≠ k) {a : Act} {w : World} (h1 : Sched P (waits l k i) Q a w) (h2 : Sched P (waits l i k) Q a w) : Sched P l Q a w := fun L hL => by
  rcases before_or hik L with hb | hb
  · exact waits_wpOps L (h1 L (by rw [waits_length]; exact path_waits _ _ L (by simp) (.inr hb) hL))
  · exact waits_wpOps L (h2 L (by rw [waits_length]; exact path_waits _ _ L (by simp) (.inr hb) hL))
theorem sched_plan (segs : List (List Nat × Nat × List Nat)) (last : List Nat) {a : Act} {w : World} (hok : planOk P l segs last = true) (h : wpSegs P l (fun a w => Q .normal a w) last segs a w) : Sched P l Q a w := fun L hL => by
  refine wpAny_path _ _ L a w ?_ hL
  have F := facts_of hok
  obtain ⟨b, pre, todo, hord, hall, hsb, hst, hpx⟩ := advance F segs [] a w rfl (fun s hs => hs) h
  have hf : ∀ i, (Array.replicate l.length false).getD i false = false := fun i => by
    rw [Array.getD_eq_getD_getElem?, Array.getElem?_replicate]; split <;> rfl
  refine wpAny_of_inv F _ _ _ _ pre todo b (by rw [cnt_new _ _ (by simp)]; simp) ⟨by simp, ?_, hord.symm, fun i _ => hf i, fun i hi _ => hall i hi, hsb.defers.symm, hsb.size.symm, ?_, hst, fun k hk hkx => absurd hkx (hpx k hk)⟩
  · intro j o _ hj
    rw [hf j] at hj
    cases hj
  · intro s hs
    refine (hsb.slot s fun hmem => ?_).symm
    obtain ⟨k, hk, e⟩ := List.mem_map.1 hmem
    exact hs k hk (hf k) e
theorem wp_sched {id : Nat} {a : Act} {w : World} (hm : P.follows .mixedOrders = true) (h : Sched P l Q a w.drew) : (Code.region id l.toArray true).wp P Q a w :=
  wp_region_draw fun t => by
    simp only [Region.schedule, hm, Bool.true_or, if_true]
    refine h _ ?_
    have := path_lin (l := l) l.toArray.size t (Array.replicate l.toArray.size false)
    simpa [Region.linearise] using this
end
end Go.Proofs.YtdaokholmlpfkaaDoor

/- Layer 25, plain: a record's form and how it is read. -/
import Derived.Laws.BytesArg
namespace Go.Proofs.Ytnoookcfacmdkaa
set_option linter.unusedSimpArgs false
set_option linter.unusedVariables false

/-! ### numbers as bytes -/
/-- The lowest bytes of a number, the highest one first. -/
def numB (n : Int) : Nat → List Int
  | 0 => []
  | m + 1 => n / 256 ^ m % 256 :: numB n m
def readNum (l : List Int) : Int := l.foldl (fun n x => n * 256 + x) 0
theorem numB_length (n : Int) : ∀ m, (numB n m).length = m
  | 0 => rfl
  | m + 1 => by simp [numB, numB_length n m]
theorem readFrom (l : List Int) : ∀ a : Int, l.foldl (fun n x => n * 256 + x) a = a * 256 ^ l.length + readNum l := by
  induction l with
  | nil => intro a; simp [readNum]
  | cons x l ih =>
    intro a
    have e : readNum (x :: l) = x * 256 ^ l.length + readNum l := by
      rw [readNum, List.foldl_cons, ih]; simp
    rw [List.foldl_cons, ih, e, List.length_cons, Int.pow_succ]
    simp only [Int.add_mul, Int.mul_assoc, Int.add_assoc]
    rw [Int.mul_comm 256 (256 ^ l.length)]
theorem readNum_cons (x : Int) (l : List Int) : readNum (x :: l) = x * 256 ^ l.length + readNum l := by
  rw [readNum, List.foldl_cons, readFrom]; simp
theorem mod_step (n : Int) (p : Int) (hp : 0 < p) : n % (p * 256) = n / p % 256 * p + n % p := by
  rw [Int.emod_def n (p * 256), Int.emod_def (n / p) 256, Int.emod_def n p, ← Int.ediv_ediv_of_nonneg (Int.le_of_lt hp), Int.sub_mul]
  have : 256 * (n / p / 256) * p = p * 256 * (n / p / 256) := by rw [Int.mul_comm p 256, Int.mul_assoc, Int.mul_assoc, Int.mul_comm p]
  rw [this, Int.mul_comm (n / p) p]
  omega
theorem readNum_numB (n : Int) : ∀ m, readNum (numB n m) = n % 256 ^ m
  | 0 => by simp [numB, readNum]
  | m + 1 => by
    rw [numB, readNum_cons, numB_length, readNum_numB n m, Int.pow_succ, mod_step _ _ (Int.pow_pos (by omega))]
theorem readNum_of (n : Int) (m : Nat) (h0 : 0 ≤ n) (h1 : n < 256 ^ m) : readNum (numB n m) = n := by
  rw [readNum_numB, Int.emod_eq_of_lt h0 h1]
def Byt (l : List Int) : Prop := ∀ x ∈ l, 0 ≤ x ∧ x < 256
theorem Byt.nil : Byt [] := fun x h => by cases h
theorem Byt.cons {x : Int} {l : List Int} (h0 : 0 ≤ x) (h1 : x < 256) (h : Byt l) : Byt (x :: l) := fun y hy => by
  rcases List.mem_cons.1 hy with rfl | hy
  · exact ⟨h0, h1⟩
  · exact h y hy
theorem Byt.app {a b : List Int} (h : Byt a) (k : Byt b) : Byt (a ++ b) := fun y hy => by
  rcases List.mem_append.1 hy with hy | hy
  · exact h y hy
  · exact k y hy
theorem Byt.take {a : List Int} (h : Byt a) (n : Nat) : Byt (a.take n) := fun y hy => h y (List.mem_of_mem_take hy)
theorem Byt.drop {a : List Int} (h : Byt a) (n : Nat) : Byt (a.drop n) := fun y hy => h y (List.mem_of_mem_drop hy)
theorem Byt.numB (n : Int) : ∀ m, Byt (numB n m)
  | 0 => Byt.nil
  | m + 1 => Byt.cons (Int.emod_nonneg _ (by omega)) (Int.emod_lt_of_pos _ (by omega)) (Byt.numB n m)
theorem readNum_low {l : List Int} (h : Byt l) : 0 ≤ readNum l := by
  induction l with
  | nil => simp [readNum]
  | cons x l ih =>
    rw [readNum_cons]
    have h1 := ih fun y hy => h y (by simp [hy])
    have h2 := (h x (by simp)).1
    have h3 : (0 : Int) ≤ 256 ^ l.length := Int.le_of_lt (Int.pow_pos (by omega))
    have := Int.mul_nonneg h2 h3
    omega
theorem readNum_high {l : List Int} (h : Byt l) : readNum l < 256 ^ l.length := by
  induction l with
  | nil => simp [readNum]
  | cons x l ih =>
    rw [readNum_cons, List.length_cons, Int.pow_succ]
    have h1 := ih fun y hy => h y (by simp [hy])
    have h2 := (h x (by simp)).2
    have h3 : (0 : Int) < 256 ^ l.length := Int.pow_pos (by omega)
    have h4 : x * 256 ^ l.length ≤ 255 * 256 ^ l.length := Int.mul_le_mul_of_nonneg_right (by omega) (by omega)
    omega

/-! ### texts as bytes -/
def numsOf (s : ByteArray) : List Int := s.data.toList.map fun x => (x.toNat : Int)
theorem numsOf_length (s : ByteArray) : (numsOf s).length = s.size := by simp [numsOf]
theorem Byt.nums (s : ByteArray) : Byt (numsOf s) := fun x hx => by
  obtain ⟨u, _, rfl⟩ := List.mem_map.1 hx
  have := u.toNat_lt
  omega
theorem str_nums (s : ByteArray) : strOfNums (numsOf s) = s := by
  obtain ⟨⟨l⟩⟩ := s
  simp only [strOfNums, numsOf, List.map_map]
  congr 2
  rw [List.map_congr_left (g := id) (fun x _ => by simp)]
  simp
theorem nums_str {l : List Int} (h : Byt l) : numsOf (strOfNums l) = l := by
  simp only [strOfNums, numsOf, List.map_map]
  rw [List.map_congr_left (g := id) (fun x hx => ?_)]
  · simp
  · have := h x hx
    simp
    omega
theorem str_size (l : List Int) : (strOfNums l).size = l.length := by
  simp [strOfNums, ByteArray.size]

/-! ### operations, records -/
structure DoR where
  k : Int
  f : Int
  nm : ByteArray
  fk : Int
  a : Int
  b : Int
  vk : Int
  c : Int
  s : Int
  e : Int
  tx : ByteArray
theorem DoR.ext' {x y : DoR} (h1 : x.k = y.k) (h2 : x.f = y.f) (h3 : x.nm = y.nm) (h4 : x.fk = y.fk) (h5 : x.a = y.a) (h6 : x.b = y.b) (h7 : x.vk = y.vk) (h8 : x.c = y.c) (h9 : x.s = y.s) (h10 : x.e = y.e) (h11 : x.tx = y.tx) : x = y := by
  cases x; cases y; simp_all
instance : DecidableEq DoR := fun x y => decidable_of_iff (x.k = y.k ∧ x.f = y.f ∧ x.nm = y.nm ∧ x.fk = y.fk ∧ x.a = y.a ∧ x.b = y.b ∧ x.vk = y.vk ∧ x.c = y.c ∧ x.s = y.s ∧ x.e = y.e ∧ x.tx = y.tx)
  ⟨fun ⟨h1, h2, h3, h4, h5, h6, h7, h8, h9, h10, h11⟩ => DoR.ext' h1 h2 h3 h4 h5 h6 h7 h8 h9 h10 h11, fun h => by subst h; simp⟩
def noStr : ByteArray := ⟨#[]⟩
def DoR.zero : DoR := ⟨0, 0, noStr, 0, 0, 0, 0, 0, 0, 0, noStr⟩
structure RecR where
  k : Int
  ds : List DoR
  a : Int
  b : Int
theorem RecR.ext' {x y : RecR} (h1 : x.k = y.k) (h2 : x.ds = y.ds) (h3 : x.a = y.a) (h4 : x.b = y.b) : x = y := by
  cases x; cases y; simp_all
instance : DecidableEq RecR := fun x y => decidable_of_iff (x.k = y.k ∧ x.ds = y.ds ∧ x.a = y.a ∧ x.b = y.b)
  ⟨fun ⟨h1, h2, h3, h4⟩ => RecR.ext' h1 h2 h3 h4, fun h => by subst h; simp⟩
def RecR.zero : RecR := ⟨0, [], 0, 0⟩
/-- all that its kind does not have taken off -/
def DoR.short (d : DoR) : DoR :=
  if d.k = 1 then { DoR.zero with k := d.k, nm := d.nm, fk := d.fk }
  else if d.k = 2 then { DoR.zero with k := d.k, f := d.f, a := d.a, b := d.b, vk := d.vk, c := d.c, s := d.s, e := d.e }
  else if d.k = 3 then { DoR.zero with k := d.k, f := d.f, a := d.a, b := d.b }
  else if d.k = 4 ∨ d.k = 6 then { DoR.zero with k := d.k, f := d.f, tx := d.tx }
  else { DoR.zero with k := d.k, f := d.f }
def decOk (c s : Int) : Bool := decide (0 ≤ s) && decide (s ≤ 9) && (decide (s = 0) || decide (Int.tmod c 10 ≠ 0))
def mayV (k c s e : Int) : Bool :=
  if k = 1 ∧ e = 0 then decOk c s
  else decide (c = 0 ∧ s = 0 ∧ (k = 0 ∧ e = 0 ∨ k = 2 ∧ e = 0 ∨ k = 3 ∧ e = 0 ∨ k = 4 ∧ (e = 11 ∨ e = 12 ∨ e = 13)))
def spanOk (a b : Int) : Bool := decide (0 ≤ a) && decide (a < 16777216) && decide (0 ≤ b) && decide (b < 16777216)
def DoR.may (d : DoR) : Bool :=
  !(decide (d.k = 2) && (!mayV d.vk d.c d.s d.e || decide (d.vk < 1) || decide (3 < d.vk))) &&
  (decide (1 ≤ d.k) && decide (d.k ≤ 7) && decide (d = d.short) && decide (0 ≤ d.f) && decide (d.f ≤ 255) && decide (d.nm.size ≤ 12) && decide (d.tx.size ≤ 400) && spanOk d.a d.b)
def RecR.may (r : RecR) : Bool :=
  if r.k = 1 then decide (r.ds.length ≤ 64) && decide (r.a = 0 ∧ r.b = 0) && r.ds.all DoR.may
  else if r.k = 2 ∨ r.k = 3 then decide (r.ds.length = 0) && spanOk r.a r.b
  else false
def ends (a b : Int) : List Int := numB a 3 ++ numB b 3
def u64 (c : Int) : Int := c % 18446744073709551616
def DoR.enc (d : DoR) : List Int :=
  if d.k = 1 then d.k :: (d.nm.size : Int) % 256 :: (numsOf d.nm ++ [d.fk])
  else d.k :: d.f % 256 ::
    (if d.k = 2 then ends d.a d.b ++ d.vk :: (if d.vk = 1 then numB (u64 d.c) 8 ++ [d.s % 256] else [])
     else if d.k = 3 then ends d.a d.b
     else if d.k = 4 ∨ d.k = 6 then numB d.tx.size 2 ++ numsOf d.tx
     else [])
def encs : List DoR → List Int
  | [] => []
  | d :: ds => d.enc ++ encs ds
def RecR.enc (r : RecR) : List Int := if r.k = 1 then r.k :: (r.ds.length : Int) % 256 :: encs r.ds else r.k :: ends r.a r.b

/-! ### reading -/
def tk (n : Int) (l : List Int) : Option (List Int × List Int) := if n ≤ l.length then some (l.take n.toNat, l.drop n.toNat) else none
theorem tk_app (a r : List Int) : tk a.length (a ++ r) = some (a, r) := by
  unfold tk
  rw [if_pos (by simp; omega)]
  simp
def pNum (m : Nat) (l : List Int) : Option (Int × List Int) := (tk m l).map fun x => (readNum x.1, x.2)
theorem pNum_app (n : Int) (m : Nat) (r : List Int) (h0 : 0 ≤ n) (h1 : n < 256 ^ m) : pNum m (numB n m ++ r) = some (n, r) := by
  have := tk_app (numB n m) r
  rw [numB_length] at this
  rw [pNum, this]
  simp [readNum_of n m h0 h1]
theorem pNum_one (n : Int) (r : List Int) (h0 : 0 ≤ n) (h1 : n < 256) : pNum 1 (n :: r) = some (n, r) := by
  have := pNum_app n 1 r h0 (by simpa using h1)
  simpa [numB, Int.emod_eq_of_lt h0 h1] using this
def pText (m : Nat) (l : List Int) : Option (ByteArray × List Int) :=
  match pNum m l with
  | none => none
  | some (n, r) => match tk n r with
    | none => none
    | some (x, r) => some (strOfNums x, r)
theorem pText_app (s : ByteArray) (m : Nat) (r : List Int) (h : (s.size : Int) < 256 ^ m) : pText m (numB s.size m ++ (numsOf s ++ r)) = some (s, r) := by
  have e := tk_app (numsOf s) r
  rw [numsOf_length] at e
  rw [pText, pNum_app _ _ _ (by omega) h]
  simp only [e, str_nums]
def pSpan (l : List Int) : Option ((Int × Int) × List Int) :=
  match pNum 3 l with
  | none => none
  | some (a, r) => match pNum 3 r with
    | none => none
    | some (b, r) => some ((a, b), r)
theorem p3 : (256 : Int) ^ 3 = 16777216 := by decide
theorem pSpan_app (a b : Int) (r : List Int) (h : spanOk a b = true) : pSpan (ends a b ++ r) = some ((a, b), r) := by
  simp only [spanOk, Bool.and_eq_true, decide_eq_true_eq] at h
  unfold pSpan ends
  rw [List.append_assoc, pNum_app a 3 _ (by omega) (by rw [p3]; omega)]
  simp only
  rw [pNum_app b 3 _ (by omega) (by rw [p3]; omega)]
theorem p8 : (256 : Int) ^ 8 = 18446744073709551616 := by decide
theorem p2 : (256 : Int) ^ 2 = 65536 := by decide
/-- the int64 that an uint64 is -/
def i64of (n : Int) : Int := if n < 9223372036854775808 then n else n - 18446744073709551616
theorem i64_u64 (c : Int) (h0 : -9223372036854775808 ≤ c) (h1 : c ≤ 9223372036854775807) : i64of (u64 c) = c := by
  unfold i64of u64
  split <;> omega
def pVal (l : List Int) : Option ((Int × Int × Int) × List Int) :=
  match pNum 1 l with
  | none => none
  | some (k, r) =>
    if k = 1 then match pNum 8 r with
      | none => none
      | some (c, r) => match pNum 1 r with
        | none => none
        | some (s, r) => some ((k, i64of c, s), r)
    else some ((k, 0, 0), r)
def pDo (l : List Int) : Option (DoR × List Int) :=
  match pNum 1 l with
  | none => none
  | some (k, r) =>
    if k = 1 then match pText 1 r with
      | none => none
      | some (nm, r) => match pNum 1 r with
        | none => none
        | some (fk, r) => some ({ DoR.zero with k := k, nm := nm, fk := fk }, r)
    else match pNum 1 r with
      | none => none
      | some (f, r) =>
        if k = 2 then match pSpan r with
          | none => none
          | some (x, r) => match pVal r with
            | none => none
            | some (v, r) => some ({ DoR.zero with k := k, f := f, a := x.1, b := x.2, vk := v.1, c := v.2.1, s := v.2.2 }, r)
        else if k = 3 then match pSpan r with
          | none => none
          | some (x, r) => some ({ DoR.zero with k := k, f := f, a := x.1, b := x.2 }, r)
        else if k = 4 ∨ k = 6 then match pText 2 r with
          | none => none
          | some (t, r) => some ({ DoR.zero with k := k, f := f, tx := t }, r)
        else some ({ DoR.zero with k := k, f := f }, r)
def pDos : Nat → List Int → Option (List DoR × List Int)
  | 0, l => some ([], l)
  | n + 1, l => match pDo l with
    | none => none
    | some (d, r) => match pDos n r with
      | none => none
      | some (ds, r) => some (d :: ds, r)
def pRec (l : List Int) : Option (RecR × List Int) :=
  match pNum 1 l with
  | none => none
  | some (k, r) =>
    if k = 1 then match pNum 1 r with
      | none => none
      | some (n, r) => match pDos n.toNat r with
        | none => none
        | some (ds, r) => some (⟨k, ds, 0, 0⟩, r)
    else match pSpan r with
      | none => none
      | some (x, r) => some (⟨k, [], x.1, x.2⟩, r)
/-- The numbers of an operation are such as their types hold. -/
structure DoR.Wf (d : DoR) : Prop where
  k0 : 0 ≤ d.k
  k1 : d.k < 256
  fk0 : 0 ≤ d.fk
  fk1 : d.fk < 256
  vk0 : 0 ≤ d.vk
  vk1 : d.vk < 256
  c0 : -9223372036854775808 ≤ d.c
  c1 : d.c ≤ 9223372036854775807
theorem decOk_s {c s : Int} (h : decOk c s = true) : 0 ≤ s ∧ s ≤ 9 := by
  simp only [decOk, Bool.and_eq_true, decide_eq_true_eq] at h
  exact h.1
theorem may_kinds {d : DoR} (h : d.may = true) : (1 ≤ d.k ∧ d.k ≤ 7) ∧ d = d.short ∧ (0 ≤ d.f ∧ d.f ≤ 255) ∧ d.nm.size ≤ 12 ∧ d.tx.size ≤ 400 ∧ spanOk d.a d.b = true ∧
    (d.k = 2 → mayV d.vk d.c d.s d.e = true ∧ 1 ≤ d.vk ∧ d.vk ≤ 3) := by
  simp only [DoR.may, Bool.and_eq_true, decide_eq_true_eq, Bool.not_eq_true', Bool.and_eq_false_iff, Bool.or_eq_false_iff, decide_eq_false_iff_not, Bool.not_eq_false'] at h
  obtain ⟨h1, ⟨⟨⟨⟨⟨⟨h2, h3⟩, h4⟩, h5⟩, h6⟩, h7⟩, h8⟩, h9⟩ := h
  refine ⟨⟨h2, h3⟩, h4, ⟨h5, h6⟩, h7, h8, h9, fun e => ?_⟩
  rcases h1 with h1 | ⟨⟨h1, h10⟩, h11⟩
  · exact absurd e h1
  · exact ⟨h1, by omega, by omega⟩
theorem mayV_e {k c s e : Int} (h : mayV k c s e = true) (h1 : 1 ≤ k) (h3 : k ≤ 3) : e = 0 ∧ (k = 1 → 0 ≤ s ∧ s ≤ 9) ∧ (k ≠ 1 → c = 0 ∧ s = 0) := by
  unfold mayV at h
  split at h
  · rename_i hk
    exact ⟨hk.2, fun _ => decOk_s h, fun hn => absurd hk.1 hn⟩
  · simp only [decide_eq_true_eq] at h
    refine ⟨by omega, fun hk => ?_, fun _ => ⟨h.1, h.2.1⟩⟩
    omega
theorem pVal_app (d : DoR) (hw : d.Wf) (r : List Int) (h : mayV d.vk d.c d.s d.e = true) (h1 : 1 ≤ d.vk) (h3 : d.vk ≤ 3) :
    pVal (d.vk :: (if d.vk = 1 then numB (u64 d.c) 8 ++ [d.s % 256] else []) ++ r) = some ((d.vk, d.c, d.s), r) := by
  obtain ⟨he, hs, hz⟩ := mayV_e h h1 h3
  unfold pVal
  rw [List.cons_append, pNum_one _ _ (by omega) (by omega)]
  by_cases hk : d.vk = 1
  · have := hs hk
    simp only [hk, if_true]
    rw [List.append_assoc, pNum_app (u64 d.c) 8 _ (by unfold u64; omega) (by rw [p8]; unfold u64; omega)]
    simp only [List.singleton_append]
    rw [pNum_one _ _ (by omega) (by omega)]
    simp only [i64_u64 _ hw.c0 hw.c1]
    congr 4
    omega
  · simp only [if_neg hk, (hz hk).1, (hz hk).2, List.nil_append]
theorem pDo_enc (d : DoR) (hw : d.Wf) (r : List Int) (h : d.may = true) : pDo (d.enc ++ r) = some (d, r) := by
  obtain ⟨⟨hk1, hk7⟩, hsh, ⟨hf0, hf1⟩, hn, ht, hsp, hv⟩ := may_kinds h
  unfold pDo DoR.enc
  by_cases k1 : d.k = 1
  · rw [if_pos k1]
    have e1 : ((d.nm.size : Int) % 256) = d.nm.size := by omega
    have e2 : (d.nm.size : Int) :: (numsOf d.nm ++ [d.fk]) ++ r = numB d.nm.size 1 ++ (numsOf d.nm ++ (d.fk :: r)) := by
      simp [numB, e1]
    rw [e1, List.cons_append, pNum_one _ _ (by omega) (by omega)]
    simp only [k1, if_true]
    rw [e2, pText_app _ _ _ (by simp; omega)]
    simp only
    rw [pNum_one _ _ hw.fk0 hw.fk1]
    simp only
    rw [DoR.short, if_pos k1] at hsh
    rw [← k1, ← hsh]
  · have e1 : d.f % 256 = d.f := by omega
    rw [if_neg k1, e1]
    simp only [List.cons_append]
    rw [pNum_one _ _ (by omega) (by omega)]
    simp only [if_neg k1]
    rw [pNum_one _ _ (by omega) (by omega)]
    simp only
    rw [DoR.short, if_neg k1] at hsh
    by_cases k2 : d.k = 2
    · obtain ⟨hv1, hv2, hv3⟩ := hv k2
      obtain ⟨he, hs, hz⟩ := mayV_e hv1 hv2 hv3
      simp only [if_pos k2] at hsh ⊢
      rw [List.append_assoc, pSpan_app _ _ _ hsp]
      simp only
      rw [pVal_app d hw r hv1 hv2 hv3]
      simp only
      have hsh' : ({ DoR.zero with k := d.k, f := d.f, a := d.a, b := d.b, vk := d.vk, c := d.c, s := d.s } : DoR) = d := by
        rw [hsh]
        simp [DoR.zero, he]
      rw [hsh']
    · simp only [if_neg k2] at hsh ⊢
      by_cases k3 : d.k = 3
      · simp only [if_pos k3] at hsh ⊢
        rw [pSpan_app _ _ _ hsp]
        simp only
        rw [← hsh]
      · simp only [if_neg k3] at hsh ⊢
        by_cases k4 : d.k = 4 ∨ d.k = 6
        · simp only [if_pos k4] at hsh ⊢
          rw [List.append_assoc, pText_app _ _ _ (by rw [p2]; omega)]
          simp only
          rw [← hsh]
        · simp only [if_neg k4, List.nil_append] at hsh ⊢
          rw [← hsh]
theorem pDos_enc : ∀ (ds : List DoR) (r : List Int), (∀ d ∈ ds, d.Wf) → ds.all DoR.may = true → pDos ds.length (encs ds ++ r) = some (ds, r)
  | [], r, _, _ => rfl
  | d :: ds, r, hw, h => by
    simp only [List.all_cons, Bool.and_eq_true] at h
    simp only [List.length_cons, pDos, encs]
    rw [List.append_assoc, pDo_enc d (hw d (by simp)) _ h.1]
    simp only
    rw [pDos_enc ds r (fun x hx => hw x (by simp [hx])) h.2]
theorem pRec_enc (x : RecR) (r : List Int) (hw : ∀ d ∈ x.ds, d.Wf) (h : x.may = true) : pRec (x.enc ++ r) = some (x, r) := by
  unfold pRec RecR.enc
  unfold RecR.may at h
  by_cases k1 : x.k = 1
  · simp only [if_pos k1, Bool.and_eq_true, decide_eq_true_eq] at h ⊢
    have e1 : ((x.ds.length : Int) % 256) = x.ds.length := by omega
    rw [e1, List.cons_append, List.cons_append, pNum_one _ _ (by omega) (by omega)]
    simp only [if_pos k1]
    rw [pNum_one _ _ (by omega) (by omega)]
    simp only [Int.toNat_natCast]
    rw [pDos_enc _ _ hw h.2]
    simp only
    congr 2
    exact RecR.ext' rfl rfl h.1.2.1.symm h.1.2.2.symm
  · simp only [if_neg k1] at h ⊢
    split at h
    · rename_i k2
      simp only [Bool.and_eq_true, decide_eq_true_eq] at h
      rw [List.cons_append, pNum_one _ _ (by omega) (by omega)]
      simp only [if_neg k1]
      rw [pSpan_app _ _ _ h.2]
      simp only
      congr 2
      exact RecR.ext' rfl (List.length_eq_zero_iff.1 h.1).symm rfl rfl
    · cases h
/-! ### what is read of bytes is such as its types hold -/
theorem tk_some {n : Int} {l x r : List Int} (h : tk n l = some (x, r)) : n ≤ l.length ∧ x = l.take n.toNat ∧ r = l.drop n.toNat := by
  unfold tk at h
  split at h
  · simp at h; exact ⟨by assumption, h.1.symm, h.2.symm⟩
  · cases h
theorem pNum_some {m : Nat} {l r : List Int} {n : Int} (h : pNum m l = some (n, r)) : m ≤ l.length ∧ n = readNum (l.take m) ∧ r = l.drop m := by
  unfold pNum at h
  cases e : tk m l with
  | none => rw [e] at h; cases h
  | some x =>
    obtain ⟨h1, h2, h3⟩ := tk_some e
    rw [e] at h
    simp at h
    simp at h2 h3
    rw [h2, h3] at h
    exact ⟨by omega, h.1.symm, h.2.symm⟩
theorem pNum_byt {m : Nat} {l r : List Int} {n : Int} (hb : Byt l) (h : pNum m l = some (n, r)) : 0 ≤ n ∧ n < 256 ^ m ∧ Byt r := by
  obtain ⟨h1, rfl, rfl⟩ := pNum_some h
  refine ⟨readNum_low (hb.take m), ?_, hb.drop m⟩
  have := readNum_high (hb.take m)
  rwa [List.length_take, Nat.min_eq_left h1] at this
theorem pText_byt {m : Nat} {l r : List Int} {s : ByteArray} (hb : Byt l) (h : pText m l = some (s, r)) : Byt r := by
  unfold pText at h
  split at h
  · cases h
  · rename_i n r1 e
    split at h
    · cases h
    · rename_i x r2 e2
      simp at h
      obtain ⟨_, _, e3⟩ := tk_some e2
      rw [← h.2, e3]
      exact (pNum_byt hb e).2.2.drop _
theorem pSpan_byt {l r : List Int} {x : Int × Int} (hb : Byt l) (h : pSpan l = some (x, r)) : Byt r := by
  unfold pSpan at h
  split at h
  · cases h
  · rename_i n r1 e
    split at h
    · cases h
    · rename_i b r2 e2
      simp at h
      rw [← h.2]
      exact (pNum_byt (pNum_byt hb e).2.2 e2).2.2
theorem i64of_in {n : Int} (h0 : 0 ≤ n) (h1 : n < 18446744073709551616) : -9223372036854775808 ≤ i64of n ∧ i64of n ≤ 9223372036854775807 := by
  unfold i64of
  split <;> omega
theorem pVal_byt {l r : List Int} {x : Int × Int × Int} (hb : Byt l) (h : pVal l = some (x, r)) : (0 ≤ x.1 ∧ x.1 < 256) ∧ (-9223372036854775808 ≤ x.2.1 ∧ x.2.1 ≤ 9223372036854775807) ∧ Byt r := by
  unfold pVal at h
  split at h
  · cases h
  · rename_i k r1 e
    obtain ⟨h1, h2, h3⟩ := pNum_byt hb e
    split at h
    · split at h
      · cases h
      · rename_i c r2 e2
        obtain ⟨h4, h5, h6⟩ := pNum_byt h3 e2
        rw [p8] at h5
        split at h
        · cases h
        · rename_i s r3 e3
          simp at h
          rw [← h.2, ← h.1]
          exact ⟨⟨h1, by simpa using h2⟩, i64of_in h4 h5, (pNum_byt h6 e3).2.2⟩
    · simp at h
      rw [← h.2, ← h.1]
      exact ⟨⟨h1, by simpa using h2⟩, ⟨by simp, by simp⟩, h3⟩
theorem pDo_byt {l r : List Int} {d : DoR} (hb : Byt l) (h : pDo l = some (d, r)) : d.Wf ∧ Byt r := by
  unfold pDo at h
  split at h
  · cases h
  · rename_i k r1 e
    obtain ⟨h1, h2, h3⟩ := pNum_byt hb e
    rw [Int.pow_succ] at h2
    simp at h2
    split at h
    · split at h
      · cases h
      · rename_i nm r2 e2
        have h4 := pText_byt h3 e2
        split at h
        · cases h
        · rename_i fk r3 e3
          obtain ⟨h5, h6, h7⟩ := pNum_byt h4 e3
          rw [Int.pow_succ] at h6
          simp at h h6
          rw [← h.2, ← h.1]
          exact ⟨⟨h1, h2, h5, h6, by simp [DoR.zero], by simp [DoR.zero], by simp [DoR.zero], by simp [DoR.zero]⟩, h7⟩
    · split at h
      · cases h
      · rename_i f r2 e2
        have h4 := (pNum_byt h3 e2).2.2
        have hz : ∀ d : DoR, d.k = k → d.fk = 0 → d.vk = 0 → d.c = 0 → d.Wf := fun d e1 e2 e3 e4 => ⟨by omega, by omega, by omega, by omega, by omega, by omega, by omega, by omega⟩
        split at h
        · split at h
          · cases h
          · rename_i x r3 e3
            have h5 := pSpan_byt h4 e3
            split at h
            · cases h
            · rename_i v r4 e4
              obtain ⟨h6, h7, h8⟩ := pVal_byt h5 e4
              simp at h
              rw [← h.2, ← h.1]
              exact ⟨⟨h1, h2, by simp [DoR.zero], by simp [DoR.zero], h6.1, h6.2, h7.1, h7.2⟩, h8⟩
        · split at h
          · split at h
            · cases h
            · rename_i x r3 e3
              simp at h
              rw [← h.2, ← h.1]
              exact ⟨hz _ rfl rfl rfl rfl, pSpan_byt h4 e3⟩
          · split at h
            · split at h
              · cases h
              · rename_i x r3 e3
                simp at h
                rw [← h.2, ← h.1]
                exact ⟨hz _ rfl rfl rfl rfl, pText_byt h4 e3⟩
            · simp at h
              rw [← h.2, ← h.1]
              exact ⟨hz _ rfl rfl rfl rfl, h4⟩
theorem pDos_byt : ∀ (n : Nat) {l r : List Int} {ds : List DoR}, Byt l → pDos n l = some (ds, r) → (∀ d ∈ ds, d.Wf) ∧ Byt r ∧ ds.length = n
  | 0, l, r, ds, hb, h => by
    simp [pDos] at h
    rw [h.1, ← h.2]
    exact ⟨by simp, hb, rfl⟩
  | n + 1, l, r, ds, hb, h => by
    unfold pDos at h
    split at h
    · cases h
    · rename_i d r1 e
      obtain ⟨h1, h2⟩ := pDo_byt hb e
      split at h
      · cases h
      · rename_i ds1 r2 e2
        obtain ⟨h3, h4, h5⟩ := pDos_byt n h2 e2
        simp at h
        rw [← h.1, ← h.2]
        refine ⟨fun x hx => ?_, h4, by simp [h5]⟩
        rcases List.mem_cons.1 hx with rfl | hx
        · exact h1
        · exact h3 x hx
def RecR.Wf (r : RecR) : Prop := (0 ≤ r.k ∧ r.k < 256) ∧ ∀ d ∈ r.ds, d.Wf
theorem pRec_byt {l r : List Int} {x : RecR} (hb : Byt l) (h : pRec l = some (x, r)) : x.Wf := by
  unfold pRec at h
  split at h
  · cases h
  · rename_i k r1 e
    obtain ⟨h1, h2, h3⟩ := pNum_byt hb e
    rw [Int.pow_succ] at h2
    simp at h2
    split at h
    · split at h
      · cases h
      · rename_i n r2 e2
        split at h
        · cases h
        · rename_i ds r3 e3
          simp at h
          rw [← h.1]
          exact ⟨⟨h1, h2⟩, (pDos_byt _ (pNum_byt h3 e2).2.2 e3).1⟩
    · split at h
      · cases h
      · simp at h
        rw [← h.1]
        exact ⟨⟨h1, h2⟩, by simp⟩
theorem ends_byt (a b : Int) : Byt (ends a b) := (Byt.numB a 3).app (Byt.numB b 3)
theorem enc_byt {d : DoR} (h : d.Wf) : Byt d.enc := by
  have em : ∀ x : Int, 0 ≤ x % 256 ∧ x % 256 < 256 := fun x => ⟨by omega, by omega⟩
  unfold DoR.enc
  split
  · exact .cons h.k0 h.k1 (.cons (em _).1 (em _).2 ((Byt.nums _).app (.cons h.fk0 h.fk1 .nil)))
  · refine .cons h.k0 h.k1 (.cons (em _).1 (em _).2 ?_)
    split
    · refine (ends_byt _ _).app (.cons h.vk0 h.vk1 ?_)
      split
      · exact (Byt.numB _ _).app (.cons (em _).1 (em _).2 .nil)
      · exact .nil
    · split
      · exact ends_byt _ _
      · split
        · exact (Byt.numB _ _).app (Byt.nums _)
        · exact .nil
theorem encs_byt : ∀ {ds : List DoR}, (∀ d ∈ ds, d.Wf) → Byt (encs ds)
  | [], _ => .nil
  | d :: ds, h => (enc_byt (h d (by simp))).app (encs_byt fun x hx => h x (by simp [hx]))
theorem rec_byt {r : RecR} (h : r.Wf) : Byt r.enc := by
  unfold RecR.enc
  split
  · exact .cons h.1.1 h.1.2 (.cons (by omega) (by omega) (encs_byt h.2))
  · exact .cons h.1.1 h.1.2 (ends_byt _ _)
/-- What bytes are read as: the record, if they are its form. -/
def decodeR (b : List Int) : Option RecR :=
  match pRec b with
  | none => none
  | some (r, _) => if r.may = true ∧ r.enc = b then some r else none
theorem decodeR_enc (r : RecR) (hw : r.Wf) (h : r.may = true) : decodeR r.enc = some r := by
  have := pRec_enc r [] hw.2 h
  rw [List.append_nil] at this
  rw [decodeR, this]
  simp [h]
/-- Cut, or with more behind it, it is none. -/
theorem decodeR_cut (r : RecR) (hw : r.Wf) (h : r.may = true) (n : Nat) (hn : n < r.enc.length) : decodeR (r.enc.take n) = none := by
  unfold decodeR
  split
  · rfl
  · rename_i x t e
    split
    · rename_i hx
      exfalso
      have h1 := pRec_enc r [] hw.2 h
      have h2 := pRec_enc x (r.enc.drop n) (pRec_byt ((rec_byt hw).take n) e).2 hx.1
      rw [hx.2, List.take_append_drop] at h2
      rw [List.append_nil] at h1
      rw [h1] at h2
      simp only [Option.some.injEq, Prod.mk.injEq] at h2
      have := congrArg List.length h2.2
      simp at this
      omega
    · rfl
theorem decodeR_more (r : RecR) (hw : r.Wf) (h : r.may = true) {y : Int} (h0 : 0 ≤ y) (h256 : y < 256) : decodeR (r.enc ++ [y]) = none := by
  unfold decodeR
  split
  · rfl
  · rename_i x t e
    split
    · rename_i hx
      exfalso
      have h1 := pRec_enc r [y] hw.2 h
      have h2 := pRec_enc x [] (pRec_byt ((rec_byt hw).app (.cons h0 h256 .nil)) e).2 hx.1
      rw [List.append_nil, hx.2] at h2
      rw [h1] at h2
      simp at h2
    · rfl
end Go.Proofs.Ytnoookcfacmdkaa

/- Formulas: node. -/
import Derived.Test.YtdaokholmlpfkaaDoorPzJ
import Derived.Test.YtdaokholmlpfkaaDoorPzG
import Derived.Laws.IdiomCopy
namespace Go.Proofs.YtdaokholmlpfkaaDoor
set_option linter.unusedVariables false
set_option linter.unusedSimpArgs false

theorem while_shut {p : UInt8 → Bool} (hp : p 41 = false) : ∀ (l : List UInt8), whileZ p (l ++ [41]) = whileZ p l
  | [] => by simp [whileZ, List.takeWhile_cons, hp]
  | b :: l => by
    have ih := while_shut hp l
    unfold whileZ at *
    rw [List.cons_append, List.takeWhile_cons, List.takeWhile_cons]
    cases p b with
    | false => rfl
    | true => simpa using ih
theorem named_shut (l : List UInt8) : namedZ (l ++ [41]) = namedZ l := while_shut (by decide) l
theorem number_shut (l : List UInt8) : numberZ (l ++ [41]) = numberZ l := by
  have hw := while_shut (p := digitZ) (by decide) l
  have hle := whileZ_le digitZ l
  unfold numberZ
  rw [hw, List.drop_append_of_le_length hle]
  cases hd : l.drop (whileZ digitZ l) with
  | nil => rfl
  | cons b r =>
    cases r with
    | nil =>
      show (if b = 46 ∧ digitZ 41 = true then _ else _) = _
      rw [if_neg (by intro h; exact absurd h.2 (by decide))]
    | cons c r =>
      show (if b = 46 ∧ digitZ c = true then whileZ digitZ l + 1 + whileZ digitZ (c :: r ++ [41]) else _) = _
      rw [while_shut (p := digitZ) (by decide) (c :: r)]
theorem sign_shut (b : UInt8) (r : List UInt8) : signZ (b :: (r ++ [41])) = signZ (b :: r) := by
  cases r with
  | nil =>
    unfold signZ
    simp
  | cons c r => rfl
theorem word_shut {l : List UInt8} {k : Int} {n : Nat} {c s : Int} (h : wordZ l = .ok (k, n, c, s)) : wordZ (l ++ [41]) = .ok (k, n, c, s) := by
  cases l with
  | nil => cases h
  | cons b r =>
    have hn := numberZ_le (b :: r)
    unfold wordZ at h ⊢
    rw [List.cons_append]
    dsimp only at h ⊢
    rw [← List.cons_append, named_shut, number_shut, List.cons_append, sign_shut, ← List.cons_append, List.take_append_of_le_length hn]
    exact h
theorem wordZ_nz {l : List UInt8} {x : Int} (h : wordZ l = .error x) : x ≠ 0 := by
  unfold wordZ at h
  split at h
  · cases h; omega
  · split at h
    · split at h
      · cases h; omega
      · cases h
    · split at h
      · split at h
        · rename_i e he
          cases h
          unfold decZ at he
          dsimp only at he
          split at he
          · cases he; omega
          · split at he
            · cases he; omega
            · split at he
              · cases he; omega
              · split at he
                · cases he; omega
                · cases he
        · cases h
      · split at h
        · cases h
        · cases h; omega
theorem wordsZ_nz : ∀ (f p : Nat) (l : List UInt8) (out : List Tk) {x : Int × Int}, wordsZ f p l out = .error x → x.2 ≠ 0
  | 0, p, l, out, x, h => by unfold wordsZ at h; cases h
  | f + 1, p, l, out, x, h => by
    unfold wordsZ at h
    split at h
    · cases h
    · split at h
      · exact wordsZ_nz f _ _ _ h
      · split at h
        · rename_i e he
          cases h
          exact wordZ_nz he
        · exact wordsZ_nz f _ _ _ h
theorem lexZ_nz {l : List UInt8} {x : Int × Int} (h : lexZ l = .error x) : x.2 ≠ 0 := by
  unfold lexZ at h
  split at h
  · cases h; simp
  · exact wordsZ_nz _ _ _ _ h
theorem shut_word : txZ [41] = bz ")" := by decide +kernel
theorem open_word : txZ [40] = bz "(" := by decide +kernel
theorem wordZ_shut : wordZ [41] = .ok (3, 1, 0, 0) := by rfl
theorem words_cons (f p : Nat) (b : UInt8) (r : List UInt8) (out : List Tk) : wordsZ (f + 1) p (b :: r) out = if b = 32 then wordsZ f (p + 1) r out
    else match wordZ (b :: r) with
      | .error e => .error ((p : Int), e)
      | .ok (k, n, c, s) => wordsZ f (p + n) ((b :: r).drop n) (out ++ [⟨k, txZ ((b :: r).take n), c, s, p⟩]) := rfl
theorem words_shut : ∀ (f p : Nat) (l : List UInt8) (out ts : List Tk), wordsZ f p l out = .ok ts → l.length ≤ f →
    wordsZ (f + 1) (p + 1) (l ++ [41]) (openT :: out.map Tk.sh) = .ok (openT :: (ts.map Tk.sh ++ [shutT (p + l.length)]))
  | f, p, [], out, ts, h, hf => by
    have h2 : out = ts := by
      cases f with
      | zero => unfold wordsZ at h; cases h; rfl
      | succ f => unfold wordsZ at h; cases h; rfl
    subst h2
    show wordsZ (f + 1) (p + 1) [41] _ = _
    rw [words_cons, if_neg (by decide), wordZ_shut]
    dsimp only
    have h3 : ∀ f p (o : List Tk), wordsZ f p [] o = .ok o := by
      intro f p o
      cases f <;> rfl
    rw [show List.drop 1 [(41 : UInt8)] = [] from rfl, h3, show List.take 1 [(41 : UInt8)] = [41] from rfl, shut_word]
    simp [shutT]
  | 0, p, b :: l, out, ts, h, hf => by simp at hf
  | f + 1, p, b :: l, out, ts, h, hf => by
    simp only [List.length_cons] at hf
    rw [words_cons] at h
    rw [List.cons_append, words_cons]
    by_cases hb : b = 32
    · rw [if_pos hb] at h ⊢
      rw [words_shut f (p + 1) l out ts h (by omega)]
      simp only [List.length_cons]
      rw [show ((p + 1 : Nat) : Int) + (l.length : Int) = (p : Int) + ((l.length + 1 : Nat) : Int) by omega]
    · rw [if_neg hb] at h ⊢
      cases hw : wordZ (b :: l) with
      | error e => rw [hw] at h; cases h
      | ok q =>
        obtain ⟨k, n, c, s⟩ := q
        rw [hw] at h
        dsimp only at h
        have hp := wordZ_pos hw
        simp only [List.length_cons] at hp
        have hw2 := word_shut hw
        rw [List.cons_append] at hw2
        rw [hw2]
        dsimp only
        have ih := words_shut f (p + n) ((b :: l).drop n) _ ts h (by simp only [List.length_drop, List.length_cons]; omega)
        rw [← List.cons_append, List.drop_append_of_le_length (by simp only [List.length_cons]; omega), List.take_append_of_le_length (by simp only [List.length_cons]; omega)]
        rw [show p + 1 + n = p + n + 1 by omega]
        rw [show (openT :: out.map Tk.sh ++ [(⟨k, txZ ((b :: l).take n), c, s, ((p + 1 : Nat) : Int)⟩ : Tk)]) = openT :: (out ++ [(⟨k, txZ ((b :: l).take n), c, s, (p : Int)⟩ : Tk)]).map Tk.sh by
          simp [Tk.sh]]
        rw [ih]
        have e : ((p + n : Nat) : Int) + (((b :: l).drop n).length : Int) = (p : Int) + ((b :: l).length : Int) := by
          simp only [List.length_drop, List.length_cons]
          omega
        rw [e]
theorem lex_paren {l : List UInt8} (hl : l.length ≤ 300) {ts : List Tk} (h : lexZ l = .ok ts) : lexZ (40 :: (l ++ [41])) = .ok (openT :: (ts.map Tk.sh ++ [shutT l.length])) := by
  unfold lexZ at h ⊢
  rw [if_neg (by omega)] at h
  rw [if_neg (by simp; omega)]
  have h1 := words_shut l.length 0 l [] ts h (Nat.le_refl _)
  have e : (40 :: (l ++ [41]) : List UInt8).length = (l.length + 1) + 1 := by simp
  rw [e, words_cons, if_neg (by decide)]
  have hw : wordZ (40 :: (l ++ [41])) = .ok (3, 1, 0, 0) := by
    unfold wordZ
    dsimp only
    rw [if_neg (by decide), if_neg (by decide)]
    have : signZ (40 :: (l ++ [41])) = 1 := by
      unfold signZ
      dsimp only
      rw [if_neg (by simp), if_pos (by decide)]
    rw [this]
    rfl
  rw [hw]
  dsimp only
  rw [show List.drop 1 (40 :: (l ++ [41])) = l ++ [41] from rfl, show List.take 1 (40 :: (l ++ [41])) = [40] from rfl, open_word]
  have e2 : ([] ++ [(⟨3, bz "(", 0, 0, ((0 : Nat) : Int)⟩ : Tk)]) = openT :: ([] : List Tk).map Tk.sh := rfl
  rw [e2, h1]
  simp
/-- a text that is none has no nodes -/
theorem parse_cases {en : Int} {l : List Tk} {p e : Int} {T : List Nz} (h : parseZ en l = (p, e, T)) : (e = 0 ∧ p = 0 ∧ T ≠ [] ∧ T.length ≤ 100 ∧ Whole 0 T) ∨ (e ≠ 0 ∧ T = []) := by
  unfold parseZ at h
  have hnz := levZ_nz en (9 * l.length + 9) 0 ⟨l, 0, []⟩ (by omega) (by dsimp only; omega)
  have hw := levZ_lays en (9 * l.length + 9) 0 ⟨l, 0, []⟩
  cases hL : levZ en (9 * l.length + 9) 0 ⟨l, 0, []⟩ with
  | bad p2 e2 =>
    rw [hL] at h
    have := hnz p2 e2 hL
    simp only [Rz.bind_bad] at h
    cases h
    exact .inr ⟨this, rfl⟩
  | ok a s =>
    rw [hL] at h
    obtain ⟨b, hb1, hb2, -⟩ := hw a s hL
    simp only [Rz.bind_ok] at h
    by_cases h0 : s.l.length = 0
    · rw [if_pos h0] at h
      dsimp only at h
      by_cases h1 : 100 < s.tree.length
      · rw [if_pos h1] at h
        cases h
        exact .inr ⟨by omega, rfl⟩
      · rw [if_neg h1] at h
        cases h
        have e : s.tree = b := by rw [hb1]; rfl
        left
        rw [e] at h1 ⊢
        exact ⟨rfl, rfl, hb2.ne, by omega, hb2⟩
    · rw [if_neg h0] at h
      unfold failZ at h
      cases h
      exact .inr ⟨by omega, rfl⟩
theorem tree_cases {l : List UInt8} {p e : Int} {T : List Nz} (h : treeZ l = (p, e, T)) : (e = 0 ∧ p = 0 ∧ T ≠ [] ∧ T.length ≤ 100 ∧ Whole 0 T) ∨ (e ≠ 0 ∧ T = []) := by
  unfold treeZ at h
  cases hx : lexZ l with
  | error x =>
    rw [hx] at h
    have := lexZ_nz hx
    cases h
    exact .inr ⟨this, rfl⟩
  | ok ts =>
    rw [hx] at h
    exact parse_cases h
theorem tree_paren {l : List UInt8} (hl : l.length ≤ 300) {p : Int} {T : List Nz} (h : treeZ l = (p, 0, T)) : treeZ (40 :: (l ++ [41])) = (0, 0, T.map Nz.sh) ∨ ∃ p, treeZ (40 :: (l ++ [41])) = (p, 10, []) := by
  have hc := tree_cases h
  rcases hc with ⟨-, rfl, -, -, -⟩ | ⟨h0, -⟩
  · unfold treeZ at h
    cases hx : lexZ l with
    | error x =>
      rw [hx] at h
      have := lexZ_nz hx
      exact absurd (congrArg (fun q => q.2.1) h) this
    | ok ts =>
      rw [hx] at h
      have h2 := lex_paren hl hx
      unfold treeZ
      rw [h2]
      exact parse_paren (fun p e hb => levZ_nz _ _ 0 _ (by omega) (by dsimp only; omega) p e hb) h
  · exact absurd rfl h0
end Go.Proofs.YtdaokholmlpfkaaDoor
namespace Go.Proofs.YtdaokholmlpfkaaDoor
set_option linter.unusedVariables false
set_option linter.unusedSimpArgs false

/-- the words ahead and the nodes, in all -/
def Pz.sum (s : Pz) : Nat := s.l.length + s.tree.length
def Tm {α : Type} (r : Rz α) (n : Nat) : Prop := ∀ a s, r = .ok a s → s.sum ≤ n
theorem Tm.bind {α β : Type} {r : Rz α} {f : α → Pz → Rz β} {n m : Nat} (h : Tm r n) (hf : ∀ a s, s.sum ≤ n → Tm (f a s) m) : Tm (r.bind f) m := by
  cases r with
  | ok a s => exact hf a s (h a s rfl)
  | bad p e => intro a s k; cases k
theorem Tm.bad {α : Type} {p e : Int} {n : Nat} : Tm (Rz.bad p e : Rz α) n := fun a s k => by cases k
theorem Tm.ok {α : Type} {a : α} {s : Pz} {n : Nat} (h : s.sum ≤ n) : Tm (.ok a s) n := fun b t k => by cases k; exact h
theorem Tm.fail {α : Type} {en e : Int} {s : Pz} {n : Nat} : Tm (failZ en e s : Rz α) n := Tm.bad
theorem next_sum (s : Pz) : s.next.sum ≤ s.sum := by simp [Pz.next, Pz.sum]
theorem next_sum1 {s : Pz} {t : Tk} {l : List Tk} (h : s.l = t :: l) : s.next.sum + 1 = s.sum := by simp [Pz.next, Pz.sum, h]; omega
theorem mustZ_tm {en : Int} {x : ByteArray} {s : Pz} {n : Nat} (h : s.sum ≤ n) : Tm (mustZ en x s) n := by
  unfold mustZ
  split
  · exact Tm.ok (Nat.le_trans (next_sum s) h)
  · exact Tm.fail
theorem openZ_tm {en : Int} {s : Pz} {n : Nat} (h : s.sum ≤ n) : Tm (openZ en s) n := by
  unfold openZ
  split
  · exact Tm.fail
  · exact Tm.ok h
theorem nodeZ_tm {x : Nz} {s : Pz} {n : Nat} (h : s.sum + 1 ≤ n) : Tm (nodeZ x s) n := Tm.ok (by simp only [Pz.sum, List.length_append, List.length_singleton] at h ⊢; omega)
theorem fieldZ_tm {en : Int} {s : Pz} {n : Nat} (h : s.sum ≤ n) : Tm (fieldZ en s) (n - 1) := by
  unfold fieldZ
  split
  · exact Tm.fail
  · rename_i t l hs
    split
    · have := next_sum1 hs
      exact Tm.ok (by omega)
    · exact Tm.fail
theorem wholeZ_tm {en most : Int} {s : Pz} {n : Nat} (h : s.sum ≤ n) : Tm (wholeZ en most s) n := by
  unfold wholeZ
  split
  · exact Tm.fail
  · split
    · exact Tm.ok (Nat.le_trans (next_sum s) h)
    · exact Tm.fail
def LevTm (lev : Pz → Rz Int) : Prop := ∀ s, Tm (lev s) s.sum
theorem LevTm.le {lev : Pz → Rz Int} (h : LevTm lev) {s : Pz} {n : Nat} (hn : s.sum ≤ n) : Tm (lev s) n := fun a t k => Nat.le_trans (h s a t k) hn
theorem argZ_tm {en : Int} {lev : Pz → Rz Int} (hl : LevTm lev) {most : Int} {a : Az} {x : Nz} {ks : List Int} {s : Pz} {n : Nat} (h : s.sum ≤ n) : Tm (argZ en lev most a x ks s) n := by
  cases a with
  | e => exact (hl.le h).bind fun a s hs => Tm.ok hs
  | f => exact (fieldZ_tm h).bind fun a s hs => Tm.ok (by omega)
  | w => exact (wholeZ_tm h).bind fun a s hs => Tm.ok hs
theorem argsZ_tm {en : Int} {lev : Pz → Rz Int} (hl : LevTm lev) {most : Int} : ∀ (az : List Az) {first : Bool} {x : Nz} {ks : List Int} {s : Pz} {n : Nat}, s.sum ≤ n → Tm (argsZ en lev most first az x ks s) n
  | [], first, x, ks, s, n, h => Tm.ok h
  | a :: az, first, x, ks, s, n, h => by
    unfold argsZ
    refine Tm.bind (n := n) ?_ fun _ s1 h1 => (argZ_tm hl h1).bind fun y s2 h2 => argsZ_tm hl az h2
    split
    · exact Tm.ok h
    · exact mustZ_tm h
theorem close_sum (s : Pz) : s.close.sum = s.sum := rfl
theorem callRun_tm {en : Int} {lev : Pz → Rz Int} (hl : LevTm lev) {c : Int × List Az × Int} {s : Pz} {t : Tk} {l : List Tk} (hs : s.l = t :: l) : Tm (callRun en lev c s) s.sum := by
  have hn := next_sum1 hs
  unfold callRun
  refine Tm.bind (n := s.sum - 1) ?_ fun _ s1 h1 => (mustZ_tm h1).bind fun _ s2 h2 => (argsZ_tm hl _ h2).bind fun x s3 h3 => (mustZ_tm h3).bind fun _ s4 h4 => nodeZ_tm (by rw [close_sum]; omega)
  split
  · exact openZ_tm (by omega)
  · exact Tm.ok (by omega)
theorem atomZ_tm {en : Int} {lev : Pz → Rz Int} (hl : LevTm lev) {s : Pz} : Tm (atomZ en lev s) s.sum := by
  unfold atomZ
  split
  · exact Tm.fail
  · rename_i t l hs
    have hn := next_sum1 hs
    split
    · exact nodeZ_tm (by omega)
    · split
      · exact nodeZ_tm (by omega)
      · split
        · exact nodeZ_tm (by omega)
        · split
          · exact callRun_tm hl hs
          · split
            · exact (openZ_tm (Nat.le_refl _)).bind fun _ s1 h1 => (hl.le (Nat.le_trans (next_sum s1) h1)).bind fun a s2 h2 => (mustZ_tm h2).bind fun _ s3 h3 => Tm.ok h3
            · exact (fieldZ_tm (Nat.le_refl _)).bind fun x s1 h1 => nodeZ_tm (by omega)
theorem aheadZ_tm {en : Int} {self up : Pz → Rz Int} (h1 : LevTm self) (h2 : LevTm up) {x : ByteArray} {op : Int} {s : Pz} : Tm (aheadZ en self up x op s) s.sum := by
  unfold aheadZ
  split
  · rename_i hz
    obtain ⟨t, l, hs⟩ := isZ_cons hz
    have hn := next_sum1 hs
    intro a s9 h9
    unfold openZ at h9
    split at h9
    · cases h9
    · rw [Rz.bind_ok] at h9
      refine ((h1.le (n := s.sum - 1) ?_).bind fun a s2 k2 => nodeZ_tm (by rw [close_sum]; omega)) a s9 h9
      have : ({ s with deep := s.deep + 1 } : Pz).next.sum = s.next.sum := rfl
      omega
  · exact h2 s
theorem loopZ_tm {en : Int} {lev : Pz → Rz Int} (hl : LevTm lev) {n : Nat} : ∀ (f : Nat) {a : Int} {s : Pz} {m : Nat}, s.sum ≤ m → Tm (loopZ en lev n f a s) m
  | 0, a, s, m, h => Tm.bad
  | f + 1, a, s, m, h => by
    unfold loopZ
    split
    · exact Tm.ok h
    · rename_i hz
      obtain ⟨t, l, hs⟩ := infix_cons hz
      have hn := next_sum1 hs
      refine (hl.le (n := m - 1) (by omega)).bind fun b s1 k1 => (nodeZ_tm (n := m) (by omega)).bind fun a2 s2 k2 => ?_
      split
      · exact Tm.ok k2
      · exact loopZ_tm hl f k2
theorem levZ_tm (en : Int) : ∀ (f n : Nat), LevTm (levZ en f n)
  | 0, n => fun s => Tm.bad
  | f + 1, n => fun s => by
    unfold levZ
    split
    · exact atomZ_tm (levZ_tm en f 0)
    · split
      · exact aheadZ_tm (levZ_tm en f 2) (levZ_tm en f 3)
      · split
        · exact aheadZ_tm (levZ_tm en f 6) (levZ_tm en f 7)
        · exact (levZ_tm en f (n + 1) s).bind fun a s1 h1 => loopZ_tm (levZ_tm en f (n + 1)) _ h1
end Go.Proofs.YtdaokholmlpfkaaDoor
namespace Go.Proofs.YtdaokholmlpfkaaDoor
set_option linter.unusedVariables false
set_option linter.unusedSimpArgs false

def Nz.kids (n : Nz) : List Int := [n.k0, n.k1, n.k2]
theorem kids_cnt (n : Nz) (v : Int) : n.kids.count v = n.cnt v := by
  simp only [Nz.kids, Nz.cnt, List.count_cons, List.count_nil, beq_iff_eq]
  omega
/-- what is counted behind i nodes, and j kids of the next one -/
def AbvAt (T : List Nz) (i j : Nat) (A : List Int) : Prop :=
  A.length = T.length ∧ ∀ (v : Nat) (h : v < A.length), A[v] = (cntL (T.take i) v : Int) + ((((T[i]?).map Nz.kids).getD []).take j).count (v : Int)
theorem AbvAt.zero (T : List Nz) : AbvAt T 0 0 (List.replicate T.length 0) :=
  ⟨by simp, fun v h => by simp [cntL]⟩
theorem AbvAt.kid {T : List Nz} {i j : Nat} {A : List Int} (h : AbvAt T i j A) {n : Nz} (hn : T[i]? = some n) {k : Int} (hk : n.kids[j]? = some k) {v : Nat} (hv : k = v) (hlt : v < A.length) : AbvAt T i (j + 1) (A.set v (A[v] + 1)) := by
  refine ⟨by rw [List.length_set]; exact h.1, fun u hu => ?_⟩
  rw [List.length_set] at hu
  have e : (((T[i]?).map Nz.kids).getD []).take (j + 1) = (((T[i]?).map Nz.kids).getD []).take j ++ [k] := by
    rw [hn]
    show n.kids.take (j + 1) = n.kids.take j ++ [k]
    rw [List.take_add_one, hk]
    rfl
  rw [e, List.count_append, List.getElem_set]
  by_cases huv : v = u
  · subst huv
    rw [if_pos rfl, h.2 v hlt, hv]
    simp
    omega
  · rw [if_neg huv, h.2 u hu]
    have : ([k].count (u : Int)) = 0 := by
      rw [List.count_eq_zero]
      simp only [List.mem_singleton]
      omega
    omega
theorem AbvAt.none {T : List Nz} {i j : Nat} {A : List Int} (h : AbvAt T i j A) {n : Nz} (hn : T[i]? = some n) {k : Int} (hk : n.kids[j]? = some k) (hv : k < 0) : AbvAt T i (j + 1) A := by
  refine ⟨h.1, fun u hu => ?_⟩
  have e : (((T[i]?).map Nz.kids).getD []).take (j + 1) = (((T[i]?).map Nz.kids).getD []).take j ++ [k] := by
    rw [hn]
    show n.kids.take (j + 1) = n.kids.take j ++ [k]
    rw [List.take_add_one, hk]
    rfl
  have : ([k].count (u : Int)) = 0 := by
    rw [List.count_eq_zero]
    simp only [List.mem_singleton]
    omega
  rw [e, List.count_append, h.2 u hu]
  omega
theorem AbvAt.next {T : List Nz} {i : Nat} {A : List Int} (h : AbvAt T i 3 A) {n : Nz} (hn : T[i]? = some n) : AbvAt T (i + 1) 0 A := by
  refine ⟨h.1, fun u hu => ?_⟩
  have e : T.take (i + 1) = T.take i ++ [n] := by rw [List.take_add_one, hn]; rfl
  rw [h.2 u hu, e, cntL_append, cntL_one, hn]
  show ((cntL (T.take i) u : Nat) : Int) + ((n.kids.take 3).count (u : Int) : Nat) = _
  rw [show n.kids.take 3 = n.kids from rfl, kids_cnt]
  simp
theorem AbvAt.done {T : List Nz} {A : List Int} (h : AbvAt T T.length 0 A) (hw : Whole 0 T) : A.length = T.length ∧ ∀ (v : Nat) (hv : v < A.length), A[v] = if v + 1 < T.length then 1 else 0 := by
  refine ⟨h.1, fun v hv => ?_⟩
  have h1 := h.2 v hv
  have h2 := hw.cnt v (by rw [← h.1]; exact hv)
  rw [List.take_length] at h1
  rw [show (0 : Int) + v = v by omega] at h2
  rw [h1, h2]
  simp only [List.take_zero, List.count_nil]
  split <;> rfl
theorem Whole.kid {T : List Nz} (hw : Whole 0 T) {i : Nat} {n : Nz} (hn : T[i]? = some n) {j : Nat} {k : Int} (hk : n.kids[j]? = some k) : k = -1 ∨ (0 ≤ k ∧ k < i) := by
  obtain ⟨hi, rfl⟩ := List.getElem?_eq_some_iff.1 hn
  obtain ⟨h0, h1, h2⟩ := hw.fits i hi
  have hm := List.mem_of_getElem? hk
  unfold okK at h0 h1 h2
  simp only [Nz.kids, List.mem_cons, List.not_mem_nil, or_false] at hm
  rcases hm with rfl | rfl | rfl <;> omega
end Go.Proofs.YtdaokholmlpfkaaDoor
namespace Go.Proofs.YtdaokholmlpfkaaDoor
set_option linter.unusedVariables false
set_option linter.unusedSimpArgs false

def Dp {α : Type} (r : Rz α) (d : Int) : Prop := ∀ a s, r = .ok a s → s.deep = d
theorem Dp.bind {α β : Type} {r : Rz α} {f : α → Pz → Rz β} {d e : Int} (h : Dp r d) (hf : ∀ a s, s.deep = d → Dp (f a s) e) : Dp (r.bind f) e := by
  cases r with
  | ok a s => exact hf a s (h a s rfl)
  | bad p e => intro a s k; cases k
theorem Dp.bad {α : Type} {p e : Int} {d : Int} : Dp (Rz.bad p e : Rz α) d := fun a s k => by cases k
theorem Dp.ok {α : Type} {a : α} {s : Pz} {d : Int} (h : s.deep = d) : Dp (.ok a s) d := fun b t k => by cases k; exact h
theorem Dp.fail {α : Type} {en e : Int} {s : Pz} {d : Int} : Dp (failZ en e s : Rz α) d := Dp.bad
theorem mustZ_dp {en : Int} {x : ByteArray} {s : Pz} {d : Int} (h : s.deep = d) : Dp (mustZ en x s) d := by
  unfold mustZ
  split
  · exact Dp.ok h
  · exact Dp.fail
theorem openZ_dp {en : Int} {s : Pz} {d : Int} (h : s.deep = d) : Dp (openZ en s) (d + 1) := by
  unfold openZ
  split
  · exact Dp.fail
  · exact Dp.ok (by rw [← h])
theorem nodeZ_dp {x : Nz} {s : Pz} {d : Int} (h : s.deep = d) : Dp (nodeZ x s) d := Dp.ok h
theorem fieldZ_dp {en : Int} {s : Pz} {d : Int} (h : s.deep = d) : Dp (fieldZ en s) d := by
  unfold fieldZ
  split
  · exact Dp.fail
  · split
    · exact Dp.ok h
    · exact Dp.fail
theorem wholeZ_dp {en most : Int} {s : Pz} {d : Int} (h : s.deep = d) : Dp (wholeZ en most s) d := by
  unfold wholeZ
  split
  · exact Dp.fail
  · split
    · exact Dp.ok h
    · exact Dp.fail
def LevDp (lev : Pz → Rz Int) : Prop := ∀ s, Dp (lev s) s.deep
theorem LevDp.eq {lev : Pz → Rz Int} (h : LevDp lev) {s : Pz} {d : Int} (hn : s.deep = d) : Dp (lev s) d := fun a t k => (h s a t k).trans hn
theorem argZ_dp {en : Int} {lev : Pz → Rz Int} (hl : LevDp lev) {most : Int} {a : Az} {x : Nz} {ks : List Int} {s : Pz} {d : Int} (h : s.deep = d) : Dp (argZ en lev most a x ks s) d := by
  cases a with
  | e => exact (hl.eq h).bind fun a s hs => Dp.ok hs
  | f => exact (fieldZ_dp h).bind fun a s hs => Dp.ok hs
  | w => exact (wholeZ_dp h).bind fun a s hs => Dp.ok hs
theorem argsZ_dp {en : Int} {lev : Pz → Rz Int} (hl : LevDp lev) {most : Int} : ∀ (az : List Az) {first : Bool} {x : Nz} {ks : List Int} {s : Pz} {d : Int}, s.deep = d → Dp (argsZ en lev most first az x ks s) d
  | [], first, x, ks, s, d, h => Dp.ok h
  | a :: az, first, x, ks, s, d, h => by
    unfold argsZ
    refine Dp.bind (d := d) ?_ fun _ s1 h1 => (argZ_dp hl h1).bind fun y s2 h2 => argsZ_dp hl az h2
    split
    · exact Dp.ok h
    · exact mustZ_dp h
theorem callRun_dp {en : Int} {lev : Pz → Rz Int} (hl : LevDp lev) {c : Int × List Az × Int} {s : Pz} : Dp (callRun en lev c s) s.deep := by
  unfold callRun
  cases hz : isZ s.next.l (bz "(") with
  | true =>
    rw [if_pos rfl]
    refine Dp.bind (openZ_dp (s := s.next) (d := s.deep) rfl) fun _ s1 h1 => ?_
    refine Dp.bind (mustZ_dp h1) fun _ s2 h2 => ?_
    refine Dp.bind (argsZ_dp hl _ h2) fun x s3 h3 => ?_
    refine Dp.bind (mustZ_dp h3) fun _ s4 h4 => ?_
    refine nodeZ_dp ?_
    show s4.deep - 1 = s.deep
    omega
  | false =>
    rw [if_neg (by simp), Rz.bind_ok]
    unfold mustZ
    rw [if_neg (by rw [hz]; simp)]
    exact Dp.bad
theorem atomZ_dp {en : Int} {lev : Pz → Rz Int} (hl : LevDp lev) {s : Pz} : Dp (atomZ en lev s) s.deep := by
  unfold atomZ
  split
  · exact Dp.fail
  · split
    · exact nodeZ_dp rfl
    · split
      · exact nodeZ_dp rfl
      · split
        · exact nodeZ_dp rfl
        · split
          · exact callRun_dp hl
          · split
            · exact (openZ_dp rfl).bind fun _ s1 h1 => (hl.eq (s := s1.next) h1).bind fun a s2 h2 => (mustZ_dp h2).bind fun _ s3 h3 => Dp.ok (by show s3.deep - 1 = _; omega)
            · exact (fieldZ_dp rfl).bind fun x s1 h1 => nodeZ_dp h1
theorem aheadZ_dp {en : Int} {self up : Pz → Rz Int} (h1 : LevDp self) (h2 : LevDp up) {x : ByteArray} {op : Int} {s : Pz} : Dp (aheadZ en self up x op s) s.deep := by
  unfold aheadZ
  split
  · exact (openZ_dp rfl).bind fun _ s1 k1 => (h1.eq (s := s1.next) k1).bind fun a s2 k2 => nodeZ_dp (by show s2.deep - 1 = _; omega)
  · exact h2 s
theorem loopZ_dp {en : Int} {lev : Pz → Rz Int} (hl : LevDp lev) {n : Nat} : ∀ (f : Nat) {a : Int} {s : Pz} {d : Int}, s.deep = d → Dp (loopZ en lev n f a s) d
  | 0, a, s, d, h => Dp.bad
  | f + 1, a, s, d, h => by
    unfold loopZ
    split
    · exact Dp.ok h
    · refine (hl.eq (s := s.next) h).bind fun b s1 k1 => (nodeZ_dp k1).bind fun a2 s2 k2 => ?_
      split
      · exact Dp.ok k2
      · exact loopZ_dp hl f k2
theorem levZ_dp (en : Int) : ∀ (f n : Nat), LevDp (levZ en f n)
  | 0, n => fun s => Dp.bad
  | f + 1, n => fun s => by
    unfold levZ
    split
    · exact atomZ_dp (levZ_dp en f 0)
    · split
      · exact aheadZ_dp (levZ_dp en f 2) (levZ_dp en f 3)
      · split
        · exact aheadZ_dp (levZ_dp en f 6) (levZ_dp en f 7)
        · exact (levZ_dp en f (n + 1) s).bind fun a s1 h1 => loopZ_dp (levZ_dp en f (n + 1)) _ h1
end Go.Proofs.YtdaokholmlpfkaaDoor
namespace Go.Proofs.YtdaokholmlpfkaaDoor
open Go.RowKit Go.ChangeMaps Go.Deep
set_option linter.unusedSimpArgs false
set_option linter.unusedVariables false
set_option maxRecDepth 20000

/-- '((with_reducible refine xCopyAt H rfl rfl ?_ ?_ ?_ ?_); exact rfl; exact rfl; exact rfl)' -/
theorem xCopyAt {P : Program} {ops : Array Oper} {rest : List Oper} {o : Oper} {a : Act} {w w' : World} {Q : Exit → Act → World → Prop} {v : Value} {s x : Operand} {ts : Array TypeId} {ty : TypeId} {V X : Value} (hrun : (Builtin.copy_ ts ty #[V, X]).run P w = .ok v w') (ho : o.op = .call { callee := .builtin .copy, args := #[s, x], argTypes := ts }) (hty : o.type = ty) (hs : a.eval s = V) (hx : a.eval x = X)
    (hg : Region.wanted o (yielded ops a.tmps) = true) (h : wpList P ops Q rest (a.put o.dst v) w') : wpList P ops Q (o :: rest) a w := by
  subst hs; subst hx; subst hty
  exact wpList_val hg (by unfold execOp; simp only [ho, resolve, invoke, builtin, Sem.run_bind, Sem.run_pure, Result.andThen_ok, List.map_toArray, List.map_cons, List.map_nil, hrun]) h
theorem sizeNode : (Tryd.prog.info? 34).map (·.size) = some 9 := by kernel_rfl
theorem sizeArr3 : (Tryd.prog.info? 32).map (·.size) = some 3 := by kernel_rfl
theorem sizeInt : (Tryd.prog.info? 3).map (·.size) = some 1 := by kernel_rfl
def nodeV (n : Nz) : Value := .agg (encNz n).toArray
/-- the kids are laid: three none, then those that are given -/
theorem kids_store {w : World} {b : Nat} {t : TypeId} (n : Nz) (h : w.heap[b]? = some (.cells (encNz n).toArray t (0, 0))) :
    ∃ w', (Instr.storeAt 32 (.pointer (some ⟨b, 5, none⟩)) (.agg #[.int .i64 (-1), .int .i64 (-1), .int .i64 (-1)])).run Tryd.prog w = .ok () w' ∧ Mod [b] w w' ∧ w'.heap[b]? = some (.cells (encNz (kidsZ n [])).toArray t (0, 0)) := by
  refine ⟨_, run_storeAt_mid w b 5 32 #[.int .i64 (-1), .int .i64 (-1), .int .i64 (-1)] (there_blk h 5 3 (by simp [encNz])) (by rw [sizeArr3]; rfl) (by simp [Value.oneCell']), (Mod.refl _ _).setCells (by simp) _ _, ?_⟩
  rw [heap_setCells_blk b _ 5 w h]
  rfl
theorem kids_copy {w : World} {b : Nat} {t : TypeId} (n : Nz) (h : w.heap[b]? = some (.cells (encNz (kidsZ n [])).toArray t (0, 0))) {kv : Value} {ks : List Int} (hk : RowAt encI w kv ks) (h3 : ks.length ≤ 3) (ty : TypeId) :
    ∃ v w', (Builtin.copy_ #[29, 29] ty #[.slice (some ⟨b, 5, none⟩) 3 3, kv]).run Tryd.prog w = .ok v w' ∧ Mod [b] w w' ∧ w'.heap[b]? = some (.cells (encNz (kidsZ n ks)).toArray t (0, 0)) := by
  cases hk with
  | nil a cap => exact ⟨_, _, run_copy_none w _ _ _ _ _ _ _ _ _ _ Tryd.underlying29 sizeInt (by rfl), Mod.refl _ _, h⟩
  | at_ b2 o cap _ hc hr =>
    rw [flat_encI] at hr
    refine ⟨_, _, run_copy_cells w 29 29 ty 3 b 5 3 3 ⟨b2, o, none⟩ ks.length cap (ks.map (Value.int .i64)) Tryd.underlying29 sizeInt ?_ ?_ ?_ ?_ ?_, (Mod.refl _ _).setCells (by simp) _ _, ?_⟩
    · rw [List.length_map]; show _ = min _ _; omega
    · intro j v hj
      rw [Addr.add_mid]
      exact hr j v hj
    · intro j hj
      rw [List.length_map] at hj
      exact (there_blk h 5 3 (by simp [encNz]) j (by omega)).1
    · intro j hj
      rw [List.length_map] at hj
      exact (there_blk h 5 3 (by simp [encNz]) j (by omega)).2
    · intro v hv
      simp only [List.mem_map] at hv
      obtain ⟨x, _, rfl⟩ := hv
      rfl
    · rw [heap_setCells_blk b _ 5 w h]
      rcases ks with _ | ⟨a, _ | ⟨b3, _ | ⟨c, _ | ⟨d, r⟩⟩⟩⟩
      · rfl
      · rfl
      · rfl
      · rfl
      · simp at h3
theorem xBuildSl {P : Program} {ops : Array Oper} {rest : List Oper} {o : Oper} {a : Act} {w w' : World} {Q : Exit → Act → World → Prop} {v : Value} {t : TypeId} {n : Nat} {parts : Array (Nat × Operand)} {ps : Array (Nat × Value)} (hrun : (Instr.buildSlice t n ps).run P w = .ok v w') (ho : o.op = .buildSlice t n parts) (hp : (parts.map fun (i, x) => (i, a.eval x)) = ps)
    (hg : Region.wanted o (yielded ops a.tmps) = true) (h : wpList P ops Q rest (a.put o.dst v) w') : wpList P ops Q (o :: rest) a w := by
  subst hp
  exact wpList_val hg (by unfold execOp; rw [ho]; simp [Sem.run_bind, hrun, Result.andThen]) h
theorem build_nz (n : Nz) (w : World) : (Instr.buildSlice 24 1 #[(0, .agg (encNz n).toArray)]).run Tryd.prog w = .ok (.slice (some ⟨w.heap.size, 0, none⟩) 1 1) (w.alloc (.cells (encNz n).toArray 34)) := by
  obtain ⟨op, c, s, nm, k, k0, k1, k2, at_⟩ := n
  unfold encNz
  go_simp
/-- nodes are appended -/
theorem psx_grown {w wd w4 : World} {p : Nat} {en : Int} {s : Pz} {la : Option Addr} {lc : Nat} {tv v' : Value} (hx : PsX w p en s la lc tv) (mI : Mod [] w wd) (gr : Grew wd tv w4 v') {T : List Nz} (ho : OwnR encNz 9 34 w4 (p + 1) v' T) :
    PsX (w4.setCell ⟨p, 3, none⟩ v') p en { s with tree := T } la lc v' ∧ Up p w (w4.setCell ⟨p, 3, none⟩ v') := by
  have hx3 := hx.kept mI
  have hbase : ∀ k, k ∈ blk tv → p < k ∧ k < wd.heap.size := fun k hk => by
    rw [mem_blk] at hk
    have := World.ownsRow.lt hx3.own k hk
    omega
  have hb4 := gr.mod.heap hx3.blk (fun hm => by have := (hbase p hm).1; omega)
  have m5 : Mod [p] w4 (w4.setCell ⟨p, 3, none⟩ v') := (Mod.refl _ _).setCell (by simp) _
  have hb5 := heap_setCell_blk hb4 3 v'
  have hlt : p < w.heap.size := hx.lt
  refine ⟨⟨?_, ?_, ?_, hx.low, hx.deep, hx.len, hx.txt⟩, ?_⟩
  · simpa using hb5
  · refine hx3.row.sub (fun k hk => ?_) hx.low
    rw [m5.block k (by have := gr.mod.size; have := mI.size; omega) (by simp; omega)]
    exact gr.mod.block k (by have := mI.size; omega) (fun hm => by have := (hbase k hm).1; omega)
  · exact ho.kept m5 (fun q hq hm => by have := (World.ownsRow.lt ho q hq).1; simp at hm; omega)
  · refine ⟨m5.os.trans (gr.mod.os.trans mI.os), m5.tape.trans (gr.mod.tape.trans mI.tape), m5.output.trans (gr.mod.output.trans mI.output), Nat.le_trans mI.size (Nat.le_trans gr.mod.size m5.size), fun k hk hp ht => ?_, fun k hk ht => ?_⟩
    · have h1 := mI.size
      have h2 := gr.mod.size
      rw [m5.block k (by omega) (by simpa using hp), gr.mod.block k (by omega) (fun hm => ht ((hx.tb k).2 (mem_blk.1 hm)))]
      exact mI.block k hk (by simp)
    · obtain ⟨v, h1, h2⟩ := ht
      have c3 := cell_blk hb5 3
      simp only [List.setIfInBounds_toArray, List.set_cons_succ, List.set_cons_zero, List.getElem?_toArray, List.getElem?_cons_succ, List.getElem?_cons_zero] at c3
      rw [c3] at h1
      cases h1
      rcases gr.heir with e | e
      · exact (hx.tb k).2 (e ▸ h2)
      · have := e k h2
        have := mI.size
        omega
set_option maxHeartbeats 2000000 in
theorem psNode_at {w : World} {p : Nat} {en : Int} {s : Pz} (h : PsAt w p en s) (hn : s.tree.length ≤ 1000000) (n : Nz) {kv : Value} {ks : List Int} (hk : RowAt encI w kv ks) (h3 : ks.length ≤ 3) : Calls Tryd.prog 34 #[.pointer (some ⟨p, 0, none⟩), nodeV n, kv] w fun e w' => PsR p en w intV (nodeZ (kidsZ n ks) s) e w' := by
  unfold nodeV
  have hc : (Value.agg (encNz n).toArray).cells = (encNz n).toArray := rfl
  have hsz : (encNz n).toArray.size = 9 := rfl
  obtain ⟨I1, hI1, nI, zI, mI⟩ := alloc_named2 w (.cells (encNz n).toArray 34)
  obtain ⟨w2, rs2, m2, n2⟩ := kids_store n nI
  have mI2 : Mod [] w w2 := mod_on mI m2 (by simp)
  obtain ⟨cv, w3, rs3, m3, n3⟩ := kids_copy n n2 (hk.kept0 mI2) h3 3
  obtain ⟨wd, hwd⟩ : ∃ wd, w3.drew = wd := ⟨_, rfl⟩
  have mI3 : Mod [] w wd := hwd ▸ (mod_on mI2 m3 (by simp)).drew
  have n4 : wd.heap[w.heap.size]? = some (.cells (encNz (kidsZ n ks)).toArray 34 (0, 0)) := by rw [← hwd]; exact n3
  have hb3 := load_w 34 n4 (by rw [sizeNode]; rfl) Tryd.underlying34 rfl
  obtain ⟨la, lc, tv, hx⟩ := h
  have hx3 := hx.kept mI3
  have c3 := cell_blk hx3.blk 3
  have f3 := frozen_blk hx3.blk 3
  simp only [List.getElem?_toArray, List.getElem?_cons_succ, List.getElem?_cons_zero] at c3
  obtain ⟨v', w4, ra, ho', gr⟩ := own_append1 (P := Tryd.prog) (ty := 24) elemNz encNz_len encNz_one hx3.own hx3.lt (kidsZ n ks) (by omega) (by omega)
  have hbz := build_nz (kidsZ n ks) wd
  obtain ⟨ta, tc, rfl⟩ := hx3.own.lens
  obtain ⟨va, vc, rfl⟩ := ho'.lens
  have hbase : ∀ k, k ∈ blk (Value.slice ta s.tree.length tc) → p < k ∧ k < wd.heap.size := fun k hk => by
    rw [mem_blk] at hk
    have := World.ownsRow.lt hx3.own k hk
    omega
  have hb4 := gr.mod.heap hx3.blk (fun hm => by have := (hbase p hm).1; omega)
  have c4 := cell_blk hb4 3
  have f4 := frozen_blk hb4 3
  simp only [List.getElem?_toArray, List.getElem?_cons_succ, List.getElem?_cons_zero] at c4
  have hlen : (s.tree ++ [kidsZ n ks]).length = s.tree.length + 1 := by simp
  have hfin : PsAt (w4.setCell ⟨p, 3, none⟩ (.slice va (s.tree ++ [kidsZ n ks]).length vc)) p en { s with tree := s.tree ++ [kidsZ n ks] } ∧ Up p w (w4.setCell ⟨p, 3, none⟩ (.slice va (s.tree ++ [kidsZ n ks]).length vc)) := by
    have h9 := psx_grown hx mI3 gr ho'
    exact ⟨⟨_, _, _, h9.1⟩, h9.2⟩
  have HF := Lib.hid hfin
  rw [hlen] at ho' HF
  obtain ⟨wb, hwb, nB, zB, mB⟩ := alloc_named2 wd (.cells (encNz (kidsZ n ks)).toArray 34)
  rw [hwb] at ra hbz
  have hx4 := hx3.kept mB
  have c3b := cell_blk hx4.blk 3
  simp only [List.getElem?_toArray, List.getElem?_cons_succ, List.getElem?_cons_zero] at c3b
  have HSt := Lib.hid rs2
  have HC := Lib.hid rs3
  have HL := Lib.hid hb3
  rw [hlen] at ra
  have HA := Lib.hid ra
  generalize (encNz n).toArray = cn at *
  generalize kidsZ n ks = z at *
  obtain ⟨zo, zc, zs, znm, zk, z0, z1, z2, za⟩ := z
  dsimp only [encNz] at HL HA hwb n3 n4 nB
  clear hlen
  clear rs2 rs3 hb3 ra hbz hfin hbase
  go_enter Tryd.func34, Tryd.ntmps34
  go_wp2_with (first | ((with_reducible refine xStoreAt rfl HSt.out ?_ ?_ ?_ ?_); exact rfl; exact rfl; exact rfl) | ((with_reducible refine xCopyAt HC.out rfl rfl ?_ ?_ ?_ ?_); exact rfl; exact rfl; exact rfl))
  refine wp_plan [([0, 1, 5, 2, 3, 4], 6, [2, 3, 4]), ([], 7, []), ([8, 9], 10, [])] [] (by kernel_rfl) (by kernel_rfl) ?_
  simp only [wpSegs, opsOf, List.map_cons, List.map_nil, opN, List.getD_cons_zero, List.getD_cons_succ]
  go_wp2_with ((with_reducible refine xLoadAt rfl HL.out ?_ ?_ ?_); exact rfl; exact rfl)
  refine ⟨by first | trivial | rfl | exact hwd.symm, ?_⟩
  go_wp2_with fail
  refine ⟨?agA, ?_⟩
  case agA =>
    intro i hi hw
    simp only [List.mem_cons, List.not_mem_nil, or_false] at hi
    rcases hi with rfl | rfl | rfl
    all_goals (simp only [opN, List.getD_cons_zero, List.getD_cons_succ, slotOf]; go_simp)
  refine ⟨by first | trivial | rfl | exact hwd.symm, ?_⟩
  go_wp2_with ((with_reducible refine xAppendAt HA.out rfl rfl ?_ ?_ ?_ ?_); exact rfl; exact rfl; exact rfl)
  refine ⟨again_nil, ?_⟩
  go_wp2_with fail
  refine ⟨by first | trivial | rfl, ?_⟩
  go_wp2_with fail
  refine ⟨again_nil, ?_⟩
  go_wp2_with fail
  refine ⟨by first | trivial | rfl, ?_⟩
  go_wp2_with fail
  first | go_ret3 | go_ret2 | go_ret
  exact ⟨rfl, HF.out⟩
end Go.Proofs.YtdaokholmlpfkaaDoor

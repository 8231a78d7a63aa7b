/- One operation of a walk, by an equation on its run; the operation's own form is asked first. -/
import Derived.Test.YtdaokholmlpfkaaDoorProg
import Derived.Lib.ParseIntB
import Derived.Lib.ParseIntBCases
import Derived.Lib.IndexMore
import Derived.Lib.Fields
import Derived.Lib.SlicesS
import Derived.Lib.Strings
import Derived.Test.YtdaokholmlpfkaaDoorPzA
import Derived.Deep.CutRange
import Derived.Deep.CutBlock
namespace Go.Proofs.YtdaokholmlpfkaaDoor
set_option linter.unusedVariables false
set_option linter.unusedSimpArgs false

/-- a word: its kind (1 a name, 2 a number, 3 a sign), its text, its number, its place -/
structure Tk where
  kind : Int
  text : ByteArray
  c : Int
  s : Int
  at_ : Int
/-- a node -/
structure Nz where
  op : Int
  c : Int
  s : Int
  name : ByteArray
  k : Int
  k0 : Int
  k1 : Int
  k2 : Int
  at_ : Int
/-- the reading: the words ahead, the levels that are open, the nodes -/
structure Pz where
  l : List Tk
  deep : Int
  tree : List Nz
inductive Rz (α : Type) where
  | ok (a : α) (s : Pz)
  | bad (at_ e : Int)
def Rz.bind {α β : Type} (r : Rz α) (f : α → Pz → Rz β) : Rz β :=
  match r with
  | .ok a s => f a s
  | .bad p e => .bad p e
theorem Rz.bind_ok {α β : Type} (a : α) (s : Pz) (f : α → Pz → Rz β) : (Rz.ok a s).bind f = f a s := rfl
theorem Rz.bind_bad {α β : Type} (p e : Int) (f : α → Pz → Rz β) : (Rz.bad p e : Rz α).bind f = .bad p e := rfl
def Pz.next (s : Pz) : Pz := { s with l := s.l.tail }
def placeZ (en : Int) (l : List Tk) : Int :=
  match l with
  | [] => en
  | t :: _ => t.at_
/-- is the next word one (no number)? -/
def isZ (l : List Tk) (x : ByteArray) : Bool :=
  match l with
  | [] => false
  | t :: _ => decide (t.text = x) && decide (t.kind ≠ 2)
def bz (s : String) : ByteArray := s.toUTF8
def failZ {α : Type} (en : Int) (e : Int) (s : Pz) : Rz α := .bad (placeZ en s.l) e
def mustZ (en : Int) (x : ByteArray) (s : Pz) : Rz Unit := if isZ s.l x = true then .ok () s.next else failZ en 4 s
def openZ (en : Int) (s : Pz) : Rz Unit := if s.deep = 16 then failZ en 10 s else .ok () { s with deep := s.deep + 1 }
def Pz.close (s : Pz) : Pz := { s with deep := s.deep - 1 }
def nodeZ (n : Nz) (s : Pz) : Rz Int := .ok (s.tree.length : Int) { s with tree := s.tree ++ [n] }
/-- the bytes of names -/
def smallZ (b : UInt8) : Bool := decide (97 ≤ b.toNat) && decide (b.toNat ≤ 122)
def digitZ (b : UInt8) : Bool := decide (48 ≤ b.toNat) && decide (b.toNat ≤ 57)
def keptZ : List ByteArray := [bz "true", bz "false", bz "and", bz "or", bz "not", bz "if", bz "min", bz "max", bz "abs", bz "round", bz "has", bz "orelse", bz "lag", bz "least", bz "most", bz "any", bz "every"]
def nameZ (x : ByteArray) : Bool :=
  match x.data.toList with
  | [] => false
  | b :: l => decide (l.length < 12) && smallZ b && l.all (fun c => smallZ c || digitZ c) && !(keptZ.any fun y => decide (y = x))
def fieldZ (en : Int) (s : Pz) : Rz ByteArray :=
  match s.l with
  | [] => failZ en 4 s
  | t :: _ => if t.kind = 1 ∧ nameZ t.text = true then .ok t.text s.next else failZ en 4 s
def wholeZ (en : Int) (most : Int) (s : Pz) : Rz Int :=
  match s.l with
  | [] => failZ en 4 s
  | t :: _ => if t.kind = 2 ∧ t.s = 0 ∧ t.c ≤ most then .ok t.c s.next else failZ en 4 s
/-- the words that stand between, at a level -/
def opsZ (n : Nat) : List (ByteArray × Int) :=
  match n with
  | 0 => [(bz "or", 5)]
  | 1 => [(bz "and", 6)]
  | 3 => [(bz "=", 8), (bz "<>", 9), (bz "<", 10), (bz "<=", 11), (bz ">", 12), (bz ">=", 13)]
  | 4 => [(bz "+", 14), (bz "-", 15)]
  | 5 => [(bz "*", 16), (bz "/", 17)]
  | _ => []
def findZ (l : List Tk) : List (ByteArray × Int) → Int
  | [] => 0
  | o :: os => if isZ l o.1 = true then o.2 else findZ l os
def infixZ (n : Nat) (l : List Tk) : Int := findZ l (opsZ n)
/-- a call's arguments -/
inductive Az where
  | e
  | f
  | w
def callsZ : List (ByteArray × Int × List Az × Int) :=
  [(bz "if", 19, [.e, .e, .e], 0), (bz "min", 20, [.e, .e], 0), (bz "max", 21, [.e, .e], 0), (bz "abs", 22, [.e], 0), (bz "round", 23, [.e, .w], 9),
   (bz "has", 24, [.f], 0), (bz "orelse", 25, [.f, .e], 0), (bz "lag", 26, [.f, .w], 3660), (bz "least", 27, [.f, .w], 3660),
   (bz "most", 28, [.f, .w], 3660), (bz "any", 29, [.f, .w], 3660), (bz "every", 30, [.f, .w], 3660)]
def callZ (x : ByteArray) : Option (Int × List Az × Int) := (callsZ.find? fun c => decide (c.1 = x)).map (·.2)
/-- a node with the kids that it was given -/
def kidsZ (n : Nz) (ks : List Int) : Nz := { n with k0 := ks.getD 0 (-1), k1 := ks.getD 1 (-1), k2 := ks.getD 2 (-1) }
def argZ (en : Int) (lev : Pz → Rz Int) (most : Int) (a : Az) (n : Nz) (ks : List Int) (s : Pz) : Rz (Nz × List Int) :=
  match a with
  | .e => (lev s).bind fun k s => .ok (n, ks ++ [k]) s
  | .f => (fieldZ en s).bind fun x s => .ok ({ n with name := x }, ks) s
  | .w => (wholeZ en most s).bind fun k s => .ok ({ n with k := k }, ks) s
def argsZ (en : Int) (lev : Pz → Rz Int) (most : Int) : Bool → List Az → Nz → List Int → Pz → Rz (Nz × List Int)
  | _, [], n, ks, s => .ok (n, ks) s
  | first, a :: az, n, ks, s => (if first = true then .ok () s else mustZ en (bz ",") s).bind fun _ s => (argZ en lev most a n ks s).bind fun x s => argsZ en lev most false az x.1 x.2 s
def nz0 (op p : Int) : Nz := ⟨op, 0, 0, ByteArray.empty, 0, -1, -1, -1, p⟩
def callRun (en : Int) (lev : Pz → Rz Int) (c : Int × List Az × Int) (s : Pz) : Rz Int :=
  (if isZ s.next.l (bz "(") = true then openZ en s.next else .ok () s.next).bind fun _ s1 => (mustZ en (bz "(") s1).bind fun _ s2 =>
    (argsZ en lev c.2.2 true c.2.1 (nz0 c.1 (placeZ en s.l)) [] s2).bind fun x s3 => (mustZ en (bz ")") s3).bind fun _ s4 => nodeZ (kidsZ x.1 x.2) s4.close
def atomZ (en : Int) (lev : Pz → Rz Int) (s : Pz) : Rz Int :=
  match s.l with
  | [] => failZ en 4 s
  | t :: _ =>
    if t.kind = 2 then nodeZ { nz0 1 t.at_ with c := t.c, s := t.s } s.next
    else if t.text = bz "true" then nodeZ (nz0 2 t.at_) s.next
    else if t.text = bz "false" then nodeZ (nz0 3 t.at_) s.next
    else match callZ t.text with
      | some c => callRun en lev c s
      | none =>
        if t.text = bz "(" then (openZ en s).bind fun _ s1 => (lev s1.next).bind fun a s2 => (mustZ en (bz ")") s2).bind fun _ s3 => .ok a s3.close
        else (fieldZ en s).bind fun x s1 => nodeZ { nz0 4 t.at_ with name := x } s1
def aheadZ (en : Int) (self up : Pz → Rz Int) (x : ByteArray) (op : Int) (s : Pz) : Rz Int :=
  if isZ s.l x = true then (openZ en s).bind fun _ s1 => (self s1.next).bind fun a s2 => nodeZ { nz0 op (placeZ en s.l) with k0 := a } s2.close
  else up s
def loopZ (en : Int) (lev : Pz → Rz Int) (n : Nat) : Nat → Int → Pz → Rz Int
  | 0, a, s => .bad 0 0
  | f + 1, a, s =>
    if infixZ n s.l = 0 then .ok a s
    else (lev s.next).bind fun b s1 => (nodeZ { nz0 (infixZ n s.l) (placeZ en s.l) with k0 := a, k1 := b } s1).bind fun a2 s2 => if n = 3 then .ok a2 s2 else loopZ en lev n f a2 s2
def levZ (en : Int) : Nat → Nat → Pz → Rz Int
  | 0, _, s => .bad 0 0
  | f + 1, n, s =>
    if n = 7 then atomZ en (levZ en f 0) s
    else if n = 2 then aheadZ en (levZ en f 2) (levZ en f 3) (bz "not") 7 s
    else if n = 6 then aheadZ en (levZ en f 6) (levZ en f 7) (bz "-") 18 s
    else (levZ en f (n + 1) s).bind fun a s1 => loopZ en (levZ en f (n + 1)) n (s1.l.length + 1) a s1
/-- a text's tree, of its words -/
def parseZ (en : Int) (l : List Tk) : Int × Int × List Nz :=
  match (levZ en (9 * l.length + 9) 0 ⟨l, 0, []⟩).bind fun _ s => if s.l.length = 0 then .ok () s else failZ en 4 s with
  | .ok _ s => if 100 < s.tree.length then (0, 7, []) else (0, 0, s.tree)
  | .bad p e => (p, e, [])
/-- what a reading leaves is no more than n words -/
def Sh {α : Type} (r : Rz α) (n : Nat) : Prop := ∀ a s, r = .ok a s → s.l.length ≤ n
theorem Sh.bind {α β : Type} {r : Rz α} {f : α → Pz → Rz β} {n : Nat} (h : Sh r n) (hf : ∀ a s, s.l.length ≤ n → Sh (f a s) n) : Sh (r.bind f) n := by
  cases r with
  | ok a s => exact hf a s (h a s rfl)
  | bad p e => intro a s k; cases k
theorem Sh.bad {α : Type} {p e : Int} {n : Nat} : Sh (Rz.bad p e : Rz α) n := fun a s k => by cases k
theorem Sh.ok {α : Type} {a : α} {s : Pz} {n : Nat} (h : s.l.length ≤ n) : Sh (.ok a s) n := fun b t k => by cases k; exact h
theorem Sh.fail {α : Type} {en e : Int} {s : Pz} {n : Nat} : Sh (failZ en e s : Rz α) n := Sh.bad
theorem next_len (s : Pz) : s.next.l.length = s.l.length - 1 := by simp [Pz.next]
theorem mustZ_sh {en : Int} {x : ByteArray} {s : Pz} {n : Nat} (h : s.l.length ≤ n) : Sh (mustZ en x s) n := by
  unfold mustZ
  split
  · exact Sh.ok (by rw [next_len]; omega)
  · exact Sh.fail
theorem openZ_sh {en : Int} {s : Pz} {n : Nat} (h : s.l.length ≤ n) : Sh (openZ en s) n := by
  unfold openZ
  split
  · exact Sh.fail
  · exact Sh.ok h
theorem nodeZ_sh {x : Nz} {s : Pz} {n : Nat} (h : s.l.length ≤ n) : Sh (nodeZ x s) n := Sh.ok h
theorem fieldZ_sh {en : Int} {s : Pz} {n : Nat} (h : s.l.length ≤ n) : Sh (fieldZ en s) n := by
  unfold fieldZ
  split
  · exact Sh.fail
  · split
    · exact Sh.ok (by rw [next_len]; omega)
    · exact Sh.fail
theorem wholeZ_sh {en most : Int} {s : Pz} {n : Nat} (h : s.l.length ≤ n) : Sh (wholeZ en most s) n := by
  unfold wholeZ
  split
  · exact Sh.fail
  · split
    · exact Sh.ok (by rw [next_len]; omega)
    · exact Sh.fail
/-- a level that takes from ahead -/
def LevSh (lev : Pz → Rz Int) : Prop := ∀ s, Sh (lev s) s.l.length
theorem LevSh.le {lev : Pz → Rz Int} (h : LevSh lev) {s : Pz} {n : Nat} (hn : s.l.length ≤ n) : Sh (lev s) n := fun a t k => Nat.le_trans (h s a t k) hn
theorem argZ_sh {en : Int} {lev : Pz → Rz Int} (hl : LevSh lev) {most : Int} {a : Az} {x : Nz} {ks : List Int} {s : Pz} {n : Nat} (h : s.l.length ≤ n) : Sh (argZ en lev most a x ks s) n := by
  cases a with
  | e => exact (hl.le h).bind fun a s hs => Sh.ok hs
  | f => exact (fieldZ_sh h).bind fun a s hs => Sh.ok hs
  | w => exact (wholeZ_sh h).bind fun a s hs => Sh.ok hs
theorem argsZ_sh {en : Int} {lev : Pz → Rz Int} (hl : LevSh lev) {most : Int} : ∀ (az : List Az) {first : Bool} {x : Nz} {ks : List Int} {s : Pz} {n : Nat}, s.l.length ≤ n → Sh (argsZ en lev most first az x ks s) n
  | [], first, x, ks, s, n, h => Sh.ok h
  | a :: az, first, x, ks, s, n, h => by
    unfold argsZ
    refine Sh.bind ?_ fun _ s1 h1 => (argZ_sh hl h1).bind fun y s2 h2 => argsZ_sh hl az h2
    split
    · exact Sh.ok h
    · exact mustZ_sh h
theorem callRun_sh {en : Int} {lev : Pz → Rz Int} (hl : LevSh lev) {c : Int × List Az × Int} {s : Pz} : Sh (callRun en lev c s) s.l.length := by
  have hn : s.next.l.length ≤ s.l.length := by rw [next_len]; omega
  unfold callRun
  refine Sh.bind ?_ fun _ s1 h1 => (mustZ_sh h1).bind fun _ s2 h2 => (argsZ_sh hl _ h2).bind fun x s3 h3 => (mustZ_sh h3).bind fun _ s4 h4 => nodeZ_sh h4
  split
  · exact openZ_sh hn
  · exact Sh.ok hn
theorem atomZ_sh {en : Int} {lev : Pz → Rz Int} (hl : LevSh lev) {s : Pz} : Sh (atomZ en lev s) s.l.length := by
  have hn : s.next.l.length ≤ s.l.length := by rw [next_len]; omega
  unfold atomZ
  split
  · exact Sh.fail
  · split
    · exact nodeZ_sh hn
    · split
      · exact nodeZ_sh hn
      · split
        · exact nodeZ_sh hn
        · split
          · exact callRun_sh hl
          · split
            · exact (openZ_sh (Nat.le_refl _)).bind fun _ s1 h1 => (hl.le (by rw [next_len]; omega)).bind fun a s2 h2 => (mustZ_sh h2).bind fun _ s3 h3 => Sh.ok h3
            · exact (fieldZ_sh (Nat.le_refl _)).bind fun x s1 h1 => nodeZ_sh h1
theorem aheadZ_sh {en : Int} {self up : Pz → Rz Int} (h1 : LevSh self) (h2 : LevSh up) {x : ByteArray} {op : Int} {s : Pz} : Sh (aheadZ en self up x op s) s.l.length := by
  unfold aheadZ
  split
  · exact (openZ_sh (Nat.le_refl _)).bind fun _ s1 k1 => (h1.le (by rw [next_len]; omega)).bind fun a s2 k2 => nodeZ_sh k2
  · exact h2 s
theorem loopZ_sh {en : Int} {lev : Pz → Rz Int} (hl : LevSh lev) {n : Nat} : ∀ (f : Nat) {a : Int} {s : Pz} {m : Nat}, s.l.length ≤ m → Sh (loopZ en lev n f a s) m
  | 0, a, s, m, h => Sh.bad
  | f + 1, a, s, m, h => by
    unfold loopZ
    split
    · exact Sh.ok h
    · refine (hl.le (by rw [next_len]; omega)).bind fun b s1 k1 => (nodeZ_sh k1).bind fun a2 s2 k2 => ?_
      split
      · exact Sh.ok k2
      · exact loopZ_sh hl f k2
theorem levZ_sh (en : Int) : ∀ (f n : Nat), LevSh (levZ en f n)
  | 0, n => fun s => Sh.bad
  | f + 1, n => fun s => by
    unfold levZ
    split
    · exact atomZ_sh (levZ_sh en f 0)
    · split
      · exact aheadZ_sh (levZ_sh en f 2) (levZ_sh en f 3)
      · split
        · exact aheadZ_sh (levZ_sh en f 6) (levZ_sh en f 7)
        · exact (levZ_sh en f (n + 1) s).bind fun a s1 h1 => loopZ_sh (levZ_sh en f (n + 1)) _ h1
end Go.Proofs.YtdaokholmlpfkaaDoor
namespace Go.Proofs.YtdaokholmlpfkaaDoor
set_option linter.unusedVariables false
set_option linter.unusedSimpArgs false

/-- a text of bytes -/
def txZ (l : List UInt8) : ByteArray := ⟨l.toArray⟩
def whileZ (p : UInt8 → Bool) (l : List UInt8) : Nat := (l.takeWhile p).length
def namedZ (l : List UInt8) : Nat := whileZ (fun b => smallZ b || digitZ b) l
/-- a number's bytes: digits; a point with digits behind it -/
def numberZ (l : List UInt8) : Nat :=
  match l.drop (whileZ digitZ l) with
  | b :: c :: r => if b = 46 ∧ digitZ c = true then whileZ digitZ l + 1 + whileZ digitZ (c :: r) else whileZ digitZ l
  | _ => whileZ digitZ l
def signZ (l : List UInt8) : Nat :=
  match l with
  | [] => 0
  | b :: r =>
    if (b = 60 ∧ r.head? = some 61) ∨ (b = 62 ∧ r.head? = some 61) ∨ (b = 60 ∧ r.head? = some 62) then 2
    else if b ∈ ([61, 60, 62, 43, 45, 42, 47, 40, 41, 44] : List UInt8) then 1 else 0
/-- the number that digits tell -/
def digsZ (l : List UInt8) : Nat := l.foldl (fun n b => n * 10 + (b.toNat - 48)) 0
/-- a word of digits, perhaps with a point: its number, or why not -/
def decZ (l : List UInt8) : Except Int (Int × Int) :=
  let whole := l.takeWhile digitZ
  let rest := l.drop (whole.length + 1)
  if 21 < l.length then .error 4
  else if 1 < whole.length ∧ whole.head? = some 48 then .error 4
  else if rest ≠ [] ∧ (9 < rest.length ∨ rest.getLast? = some 48) then .error 4
  else if 9223372036854775807 < digsZ (whole ++ rest) then .error 11
  else .ok ((digsZ (whole ++ rest) : Int), (rest.length : Int))
/-- the word that a text begins with: its kind, its length, its number -/
def wordZ (l : List UInt8) : Except Int (Int × Nat × Int × Int) :=
  match l with
  | [] => .error 4
  | b :: _ =>
    if smallZ b = true then (if 12 < namedZ l then .error 4 else .ok (1, namedZ l, 0, 0))
    else if digitZ b = true then (match decZ (l.take (numberZ l)) with
      | .error e => .error e
      | .ok (c, s) => .ok (2, numberZ l, c, s))
    else if 0 < signZ l then .ok (3, signZ l, 0, 0)
    else .error 4
def wordsZ : Nat → Nat → List UInt8 → List Tk → Except (Int × Int) (List Tk)
  | 0, at_, l, out => .ok out
  | f + 1, at_, l, out =>
    match l with
    | [] => .ok out
    | b :: r =>
      if b = 32 then wordsZ f (at_ + 1) r out
      else match wordZ l with
        | .error e => .error (at_, e)
        | .ok (k, n, c, s) => wordsZ f (at_ + n) (l.drop n) (out ++ [⟨k, txZ (l.take n), c, s, at_⟩])
def lexZ (l : List UInt8) : Except (Int × Int) (List Tk) := if 400 < l.length then .error (0, 3) else wordsZ l.length 0 l []
/-- a text's tree, or where and why it has none -/
def treeZ (l : List UInt8) : Int × Int × List Nz :=
  match lexZ l with
  | .error x => (x.1, x.2, [])
  | .ok ts => parseZ l.length ts
theorem whileZ_le (p : UInt8 → Bool) (l : List UInt8) : whileZ p l ≤ l.length := by
  unfold whileZ
  exact (List.takeWhile_sublist p).length_le
theorem numberZ_le (l : List UInt8) : numberZ l ≤ l.length := by
  unfold numberZ
  have h := whileZ_le digitZ l
  split
  · rename_i b c r e
    have h2 := whileZ_le digitZ (c :: r)
    have h3 := congrArg List.length e
    simp only [List.length_drop, List.length_cons] at h3 h2
    split <;> omega
  · exact h
theorem signZ_le (l : List UInt8) : signZ l ≤ l.length := by
  unfold signZ
  split
  · simp
  · rename_i b r
    split
    · rename_i h
      cases r with
      | nil => simp at h
      | cons c r => simp
    · split <;> simp
theorem wordZ_pos {l : List UInt8} {k : Int} {n : Nat} {c s : Int} (h : wordZ l = .ok (k, n, c, s)) : 0 < n ∧ n ≤ l.length := by
  unfold wordZ at h
  split at h
  · cases h
  · rename_i b r
    split at h
    · rename_i hb
      split at h
      · cases h
      · cases h
        refine ⟨?_, whileZ_le _ _⟩
        simp [namedZ, whileZ, List.takeWhile_cons, hb]
    · split at h
      · rename_i hb
        split at h
        · cases h
        · cases h
          refine ⟨?_, numberZ_le _⟩
          unfold numberZ
          have h0 : 0 < whileZ digitZ (b :: r) := by simp [whileZ, List.takeWhile_cons, hb]
          split
          · split <;> omega
          · exact h0
      · split at h
        · cases h
          rename_i h0
          exact ⟨h0, signZ_le _⟩
        · cases h
end Go.Proofs.YtdaokholmlpfkaaDoor
namespace Go.Proofs.YtdaokholmlpfkaaDoor
set_option linter.unusedVariables false
set_option linter.unusedSimpArgs false

theorem digit_nat {b : UInt8} : digitZ b = true ↔ 48 ≤ b.toNat ∧ b.toNat ≤ 57 := by simp [digitZ]
theorem small_nat {b : UInt8} : smallZ b = true ↔ 97 ≤ b.toNat ∧ b.toNat ≤ 122 := by simp [smallZ]
def digsFrom (n : Nat) (l : List UInt8) : Nat := l.foldl (fun n b => n * 10 + (b.toNat - 48)) n
theorem digsFrom_cons (n : Nat) (b : UInt8) (l : List UInt8) : digsFrom n (b :: l) = digsFrom (n * 10 + (b.toNat - 48)) l := by unfold digsFrom; rw [List.foldl_cons]
theorem digsFrom_le (l : List UInt8) : ∀ (n : Nat), n ≤ digsFrom n l := by
  induction l with
  | nil => intro n; exact Nat.le_refl n
  | cons b l ih =>
    intro n
    rw [digsFrom_cons]
    exact Nat.le_trans (show n ≤ n * 10 + (b.toNat - 48) by omega) (ih _)
theorem parseUintM_nil (M acc : Nat) : Lib.parseUintM M acc [] = .ok acc := by unfold Lib.parseUintM; rfl
theorem parseUintM_one {M acc : Nat} {b : UInt8} {l : List UInt8} (hb : 48 ≤ b.toNat ∧ b.toNat ≤ 57) : Lib.parseUintM M acc (b :: l) = if 1844674407370955162 ≤ acc then .range else if M < acc * 10 + (b.toNat - 48) then .range else Lib.parseUintM M (acc * 10 + (b.toNat - 48)) l := by
  conv => lhs; unfold Lib.parseUintM
  rw [if_pos hb]
theorem parseUintM_digs {M : Nat} (hM : M ≤ 18446744073709551615) (l : List UInt8) : ∀ (acc : Nat), (∀ b ∈ l, digitZ b = true) → acc ≤ M → Lib.parseUintM M acc l = if digsFrom acc l ≤ M then .ok (digsFrom acc l) else .range := by
  induction l with
  | nil =>
    intro acc h ha
    rw [parseUintM_nil, show digsFrom acc [] = acc from rfl, if_pos ha]
  | cons b l ih =>
    intro acc h ha
    have hb := digit_nat.1 (h b (by simp))
    rw [digsFrom_cons]
    have hge := digsFrom_le l (acc * 10 + (b.toNat - 48))
    rw [parseUintM_one hb]
    by_cases h1 : 1844674407370955162 ≤ acc
    · rw [if_pos h1, if_neg (by omega)]
    · rw [if_neg h1]
      by_cases h2 : M < acc * 10 + (b.toNat - 48)
      · rw [if_pos h2, if_neg (by omega)]
      · rw [if_neg h2]
        exact ih _ (fun c hc => h c (by simp [hc])) (by omega)
theorem parseInt_digs {l : List UInt8} (hl : l ≠ []) (h : ∀ b ∈ l, digitZ b = true) : Lib.parseIntB 64 l = if digsZ l ≤ 9223372036854775807 then .ok (digsZ l : Int) else .range := by
  cases l with
  | nil => exact absurd rfl hl
  | cons b l =>
    have hb := digit_nat.1 (h b (by simp))
    rw [Lib.parseIntB_plain 64 b l (by omega) (by omega)]
    unfold Lib.parseUintB
    rw [if_neg (by simp)]
    rw [show 2 ^ 64 - 1 = 18446744073709551615 from rfl, parseUintM_digs (Nat.le_refl _) (b :: l) 0 h (Nat.zero_le _)]
    rw [show digsFrom 0 (b :: l) = digsZ (b :: l) from rfl]
    generalize digsZ (b :: l) = n
    by_cases h1 : n ≤ 18446744073709551615
    · rw [if_pos h1]
      unfold Lib.signlessC
      by_cases h2 : n ≤ 9223372036854775807
      · rw [if_pos h2]
        simp
        omega
      · rw [if_neg h2]
        simp
        omega
    · rw [if_neg h1, if_neg (by omega)]
      rfl
/-- a number's word: its digits, and those behind the point -/
structure NumW (l whole rest : List UInt8) : Prop where
  ne : whole ≠ []
  dw : ∀ b ∈ whole, digitZ b = true
  dr : ∀ b ∈ rest, digitZ b = true
  eq : (rest = [] ∧ l = whole) ∨ (rest ≠ [] ∧ l = whole ++ 46 :: rest)
theorem takeWhile_all {p : UInt8 → Bool} {l r : List UInt8} (h : ∀ b ∈ l, p b = true) (hr : ∀ b, r.head? = some b → p b = false) : (l ++ r).takeWhile p = l := by
  induction l with
  | nil =>
    cases r with
    | nil => rfl
    | cons c r => simp [List.takeWhile_cons, hr c rfl]
  | cons b l ih =>
    rw [List.cons_append, List.takeWhile_cons, if_pos (h b (by simp)), ih (fun c hc => h c (by simp [hc]))]
theorem not_digit_46 : digitZ 46 = false := by decide
theorem NumW.parts {l whole rest : List UInt8} (h : NumW l whole rest) : l.takeWhile digitZ = whole ∧ l.drop (whole.length + 1) = rest := by
  rcases h.eq with ⟨h1, h2⟩ | ⟨h1, h2⟩
  · subst h1
    subst h2
    refine ⟨?_, by simp⟩
    have := takeWhile_all (r := []) h.dw (by simp)
    simpa using this
  · subst h2
    refine ⟨takeWhile_all h.dw (by simp [not_digit_46]), ?_⟩
    rw [← List.drop_drop, List.drop_left]
    rfl
/-- a number's word, told by its parts -/
def decW (n : Nat) (whole rest : List UInt8) : Except Int (Int × Int) :=
  if 21 < n then .error 4
  else if 1 < whole.length ∧ whole.head? = some 48 then .error 4
  else if rest ≠ [] ∧ (9 < rest.length ∨ rest.getLast? = some 48) then .error 4
  else if 9223372036854775807 < digsZ (whole ++ rest) then .error 11
  else .ok ((digsZ (whole ++ rest) : Int), (rest.length : Int))
theorem NumW.dec {l whole rest : List UInt8} (h : NumW l whole rest) : decZ l = decW l.length whole rest := by
  unfold decZ decW
  dsimp only
  rw [h.parts.1, h.parts.2]
theorem takeWhile_digs (l : List UInt8) : ∀ b ∈ l.takeWhile digitZ, digitZ b = true := fun b hb => by
  induction l with
  | nil => simp at hb
  | cons c l ih =>
    rw [List.takeWhile_cons] at hb
    split at hb
    · rename_i hc
      rcases List.mem_cons.1 hb with rfl | hb
      · exact hc
      · exact ih hb
    · simp at hb
theorem take_while (p : UInt8 → Bool) (l : List UInt8) : l.take (whileZ p l) = l.takeWhile p := by
  have h : l = l.takeWhile p ++ l.dropWhile p := (List.takeWhile_append_dropWhile).symm
  have h2 : l.take (whileZ p l) = (l.takeWhile p ++ l.dropWhile p).take (whileZ p l) := congrArg (List.take (whileZ p l)) h
  rw [h2]
  unfold whileZ
  rw [List.take_left]
theorem num_word {b : UInt8} {l : List UInt8} (hb : digitZ b = true) : ∃ whole rest, NumW ((b :: l).take (numberZ (b :: l))) whole rest := by
  have hne : (b :: l).takeWhile digitZ ≠ [] := by simp [List.takeWhile_cons, hb]
  have hdec : ∃ whole rest, NumW ((b :: l).take (whileZ digitZ (b :: l))) whole rest := ⟨(b :: l).takeWhile digitZ, [], hne, takeWhile_digs _, by simp, .inl ⟨rfl, take_while _ _⟩⟩
  unfold numberZ
  split
  · rename_i c d r e
    split
    · rename_i hcd
      obtain ⟨rfl, hd⟩ := hcd
      refine ⟨(b :: l).takeWhile digitZ, (d :: r).takeWhile digitZ, hne, takeWhile_digs _, takeWhile_digs _, .inr ⟨by simp [List.takeWhile_cons, hd], ?_⟩⟩
      have h1 : b :: l = (b :: l).take (whileZ digitZ (b :: l)) ++ (46 :: d :: r) := by
        have := (List.take_append_drop (whileZ digitZ (b :: l)) (b :: l)).symm
        rw [e] at this
        exact this
      have hlen : ((b :: l).take (whileZ digitZ (b :: l))).length = whileZ digitZ (b :: l) := by
        rw [List.length_take]
        have := whileZ_le digitZ (b :: l)
        omega
      have h2 : (b :: l).take (whileZ digitZ (b :: l) + 1 + whileZ digitZ (d :: r)) = ((b :: l).take (whileZ digitZ (b :: l)) ++ (46 :: d :: r)).take (whileZ digitZ (b :: l) + 1 + whileZ digitZ (d :: r)) := congrArg _ h1
      rw [h2, List.take_append, hlen, show whileZ digitZ (b :: l) + 1 + whileZ digitZ (d :: r) - whileZ digitZ (b :: l) = whileZ digitZ (d :: r) + 1 by omega, List.take_succ_cons, take_while digitZ (d :: r), List.take_of_length_le (by omega), take_while]
    · exact hdec
  · exact hdec
theorem digs_noPoint {l : List UInt8} (h : ∀ b ∈ l, digitZ b = true) {i : Nat} : l[i]? ≠ some 46 := fun k => by
  have := h 46 (List.mem_of_getElem? k)
  rw [not_digit_46] at this
  cases this
theorem cut_point {whole rest : List UInt8} (h : ∀ b ∈ whole, digitZ b = true) : Lib.cut (whole ++ 46 :: rest) [46] = (whole, rest, true) := by
  have hi : Lib.index (whole ++ 46 :: rest) [46] = (whole.length : Int) := Lib.index_first (by simp) (by simp [Lib.occAt]) (fun j hj => by
    cases ho : Lib.occAt (whole ++ 46 :: rest) [46] j with
    | false => rfl
    | true =>
      have := Lib.occAt_head rfl ho
      rw [List.getElem?_append_left hj] at this
      exact absurd this (digs_noPoint h))
  unfold Lib.cut
  rw [hi, if_pos (by omega)]
  simp
theorem cut_none {whole : List UInt8} (h : ∀ b ∈ whole, digitZ b = true) : Lib.cut whole [46] = (whole, [], false) := by
  have hi : Lib.index whole [46] = -1 := Lib.index_none (fun j hj => by
    cases ho : Lib.occAt whole [46] j with
    | false => rfl
    | true => exact absurd (Lib.occAt_head rfl ho) (digs_noPoint h))
  unfold Lib.cut
  rw [hi, if_neg (by omega)]
theorem NumW.cut {l whole rest : List UInt8} (h : NumW l whole rest) : Lib.cut l [46] = (whole, rest, decide (rest ≠ [])) := by
  rcases h.eq with ⟨h1, h2⟩ | ⟨h1, h2⟩
  · subst h1
    subst h2
    rw [cut_none h.dw]
    simp
  · subst h2
    rw [cut_point h.dw]
    simp [h1]
theorem NumW.head {l whole rest : List UInt8} (h : NumW l whole rest) : ∃ b r, l = b :: r ∧ digitZ b = true ∧ whole.head? = some b := by
  cases hw : whole with
  | nil => exact absurd hw h.ne
  | cons b w =>
    have hb := h.dw b (by rw [hw]; simp)
    rcases h.eq with ⟨h1, h2⟩ | ⟨h1, h2⟩
    · exact ⟨b, w, by rw [h2, hw], hb, rfl⟩
    · exact ⟨b, w ++ 46 :: rest, by rw [h2, hw]; rfl, hb, rfl⟩
theorem NumW.trim {l whole rest : List UInt8} (h : NumW l whole rest) : Lib.trimPrefix l [45] = l := by
  obtain ⟨b, r, rfl, hb, _⟩ := h.head
  have hb := digit_nat.1 hb
  have : b ≠ 45 := fun e => by subst e; revert hb; decide
  simp [Lib.trimPrefix, Lib.hasPrefix, this, Ne.symm this]
theorem NumW.int {l whole rest : List UInt8} (h : NumW l whole rest) : Lib.parseIntB 64 (whole ++ rest) = if digsZ (whole ++ rest) ≤ 9223372036854775807 then .ok (digsZ (whole ++ rest) : Int) else .range :=
  parseInt_digs (by have := h.ne; cases whole with | nil => exact absurd rfl this | cons b w => simp) (fun b hb => by
    rcases List.mem_append.1 hb with h1 | h1
    · exact h.dw b h1
    · exact h.dr b h1)
def keptT : ByteArray := bz "true false and or not if min max abs round has orelse lag least most any every"
theorem kept_fields : (Lib.fields keptT.data.toList).map txZ = keptZ := by decide +kernel
end Go.Proofs.YtdaokholmlpfkaaDoor
namespace Go.Proofs.YtdaokholmlpfkaaDoor
open Go.RowKit
set_option linter.unusedSimpArgs false
set_option linter.unusedVariables false

section
variable {P : Program} {ops : Array Oper} {rest : List Oper} {o : Oper} {a : Act} {w w' : World} {Q : Exit → Act → World → Prop} {v : Value}
theorem wpList_appendAt {s x : Operand} {ts : Array TypeId} {V X : Value}
    (hg : Region.wanted o (yielded ops a.tmps) = true) (ho : o.op = .call { callee := .builtin .append, args := #[s, x], argTypes := ts }) (hs : a.eval s = V) (hx : a.eval x = X)
    (hrun : (Builtin.append_ ts o.type #[V, X]).run P w = .ok v w') (h : wpList P ops Q rest (a.put o.dst v) w') : wpList P ops Q (o :: rest) a w := by
  subst hs; subst hx
  exact wpList_val hg (by unfold execOp; simp only [ho, resolve, invoke, builtin, Sem.run_bind, Sem.run_pure, Result.andThen_ok, List.map_toArray, List.map_cons, List.map_nil, hrun]) h
theorem xLoad {t : TypeId} {p : Operand} {V : Value} (ho : o.op = .load t p) (hp : a.eval p = V)
    (hrun : (Instr.loadAt t V).run P w = .ok v w') (hg : Region.wanted o (yielded ops a.tmps) = true) (h : wpList P ops Q rest (a.put o.dst v) w') : wpList P ops Q (o :: rest) a w := wpList_load hg ho hp hrun h
theorem xAlloc {t : TypeId} {z : Value} (ho : o.op = .alloc t) (hz : ∀ w, (zeroValue t).run P w = .ok z w) (hg : Region.wanted o (yielded ops a.tmps) = true)
    (h : wpList P ops Q rest (a.put o.dst (.pointer (some ⟨w.heap.size, 0, none⟩))) (w.alloc (.cells z.cells t))) : wpList P ops Q (o :: rest) a w := wpList_alloc hg ho hz h
theorem xStore {t : TypeId} {p x : Operand} {V X : Value} (ho : o.op = .store t p x) (hp : a.eval p = V) (hx : a.eval x = X)
    (hrun : (Instr.storeAt t V X).run P w = .ok () w') (hg : Region.wanted o (yielded ops a.tmps) = true) (h : wpList P ops Q rest (a.put o.dst undef) w') : wpList P ops Q (o :: rest) a w := wpList_store hg ho hp hx hrun h
theorem xConvert {s d : TypeId} {x : Operand} {X : Value} (ho : o.op = .convert s d x) (hx : a.eval x = X)
    (hrun : (convert s d X).run P w = .ok v w') (hg : Region.wanted o (yielded ops a.tmps) = true) (h : wpList P ops Q rest (a.put o.dst v) w') : wpList P ops Q (o :: rest) a w := wpList_convert hg ho hx hrun h
theorem xAppend {s x : Operand} {t : TypeId} {V X : Value} (ho : o.op = .call { callee := .builtin .append, args := #[s, x], argTypes := #[t, t] }) (hs : a.eval s = V) (hx : a.eval x = X)
    (hrun : (Builtin.append_ #[t, t] o.type #[V, X]).run P w = .ok v w') (hg : Region.wanted o (yielded ops a.tmps) = true) (h : wpList P ops Q rest (a.put o.dst v) w') : wpList P ops Q (o :: rest) a w := wpList_appendAt hg ho hs hx hrun h
theorem xLoadAt {t : TypeId} {p : Operand} {V : Value} (ho : o.op = .load t p) (hrun : (Instr.loadAt t V).run P w = .ok v w') (hp : a.eval p = V)
    (hg : Region.wanted o (yielded ops a.tmps) = true) (h : wpList P ops Q rest (a.put o.dst v) w') : wpList P ops Q (o :: rest) a w := wpList_load hg ho hp hrun h
theorem xStoreAt {t : TypeId} {p x : Operand} {V X : Value} (ho : o.op = .store t p x) (hrun : (Instr.storeAt t V X).run P w = .ok () w') (hp : a.eval p = V) (hx : a.eval x = X)
    (hg : Region.wanted o (yielded ops a.tmps) = true) (h : wpList P ops Q rest (a.put o.dst undef) w') : wpList P ops Q (o :: rest) a w := wpList_store hg ho hp hx hrun h
theorem xConvertAt {s d : TypeId} {x : Operand} {X : Value} (ho : o.op = .convert s d x) (hrun : (convert s d X).run P w = .ok v w') (hx : a.eval x = X)
    (hg : Region.wanted o (yielded ops a.tmps) = true) (h : wpList P ops Q rest (a.put o.dst v) w') : wpList P ops Q (o :: rest) a w := wpList_convert hg ho hx hrun h
theorem xLookup {t : TypeId} {x i : Operand} {ok : Bool} {X I : Value} (ho : o.op = .lookup t x i ok) (hrun : (Instr.lookup t X I ok).run P w = .ok v w') (hx : a.eval x = X) (hi : a.eval i = I)
    (hg : Region.wanted o (yielded ops a.tmps) = true) (h : wpList P ops Q rest (a.put o.dst v) w') : wpList P ops Q (o :: rest) a w := wpList_lookup hg ho hx hi hrun h
theorem xAppendAt {s x : Operand} {ts : Array TypeId} {ty : TypeId} {V X : Value} (hrun : (Builtin.append_ ts ty #[V, X]).run P w = .ok v w') (ho : o.op = .call { callee := .builtin .append, args := #[s, x], argTypes := ts }) (hty : o.type = ty) (hs : a.eval s = V) (hx : a.eval x = X)
    (hg : Region.wanted o (yielded ops a.tmps) = true) (h : wpList P ops Q rest (a.put o.dst v) w') : wpList P ops Q (o :: rest) a w := wpList_appendAt hg ho hs hx (by rw [hty]; exact hrun) h
/-- '==', '!=' of two structs. -/
theorem xEqAgg {bop : BinOp} {t u : TypeId} {x y : Operand} {X Y : Array Value} {r : Bool} (ho : o.op = .binOp bop t x y u) (hrun : (binOp bop t (.agg X) (.agg Y)).run P w = .ok (.bool r) w) (hq : P.eqGuardType P.depth t = false) (hx : a.eval x = .agg X) (hy : a.eval y = .agg Y)
    (hg : Region.wanted o (yielded ops a.tmps) = true) (h : wpList P ops Q rest (a.put o.dst (.bool r)) w) : wpList P ops Q (o :: rest) a w := by
  refine wpList_val hg ?_ h
  unfold execOp
  rw [ho]
  simp only [hx, hy, Sem.run_bind, run_eqGuard_agg w bop t x y X Y hq, Result.andThen_ok, hrun]
  rfl
/-- A shift. -/
theorem xShift {bop : BinOp} {t u : TypeId} {x y : Operand} {X Y : Value} (ho : o.op = .binOp bop t x y u) (hb : bop = .shr ∨ bop = .shl) (hrun : (binOp bop t X Y).run P w = .ok v w') (hx : a.eval x = X) (hy : a.eval y = Y)
    (hg : Region.wanted o (yielded ops a.tmps) = true) (h : wpList P ops Q rest (a.put o.dst v) w') : wpList P ops Q (o :: rest) a w := by
  refine wpList_val hg ?_ h
  unfold execOp
  rw [ho]
  rcases hb with rfl | rfl <;> simp [hx, hy, Sem.run_bind, eqGuard, hrun]
end
end Go.Proofs.YtdaokholmlpfkaaDoor

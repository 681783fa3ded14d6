/- What clients send: requests out of bytes, by definition: no program. -/
import Derived.Lib.Bytealg
namespace Go.Proofs.YtdfkdbdhaaiadaaDoor
open Go.Lib

abbrev Bs := List UInt8

def fBigM : List UInt8 := [80, 114, 111, 116, 111, 99, 111, 108, 32, 101, 114, 114, 111, 114, 58, 32, 116, 111, 111, 32, 98, 105, 103, 32, 109, 98, 117, 108, 107, 32, 99, 111, 117, 110, 116, 32, 115, 116, 114, 105, 110, 103]
def fBadM : List UInt8 := [80, 114, 111, 116, 111, 99, 111, 108, 32, 101, 114, 114, 111, 114, 58, 32, 105, 110, 118, 97, 108, 105, 100, 32, 109, 117, 108, 116, 105, 98, 117, 108, 107, 32, 108, 101, 110, 103, 116, 104]
def fBigB : List UInt8 := [80, 114, 111, 116, 111, 99, 111, 108, 32, 101, 114, 114, 111, 114, 58, 32, 116, 111, 111, 32, 98, 105, 103, 32, 98, 117, 108, 107, 32, 99, 111, 117, 110, 116, 32, 115, 116, 114, 105, 110, 103]
def fBadB : List UInt8 := [80, 114, 111, 116, 111, 99, 111, 108, 32, 101, 114, 114, 111, 114, 58, 32, 105, 110, 118, 97, 108, 105, 100, 32, 98, 117, 108, 107, 32, 108, 101, 110, 103, 116, 104]
def fLine : List UInt8 := [80, 114, 111, 116, 111, 99, 111, 108, 32, 101, 114, 114, 111, 114, 58, 32, 116, 111, 111, 32, 98, 105, 103, 32, 105, 110, 108, 105, 110, 101, 32, 114, 101, 113, 117, 101, 115, 116]
def fQuo : List UInt8 := [80, 114, 111, 116, 111, 99, 111, 108, 32, 101, 114, 114, 111, 114, 58, 32, 117, 110, 98, 97, 108, 97, 110, 99, 101, 100, 32, 113, 117, 111, 116, 101, 115, 32, 105, 110, 32, 114, 101, 113, 117, 101, 115, 116]
def fExp : List UInt8 := [80, 114, 111, 116, 111, 99, 111, 108, 32, 101, 114, 114, 111, 114, 58, 32, 101, 120, 112, 101, 99, 116, 101, 100, 32, 39, 36, 39, 44, 32, 103, 111, 116, 32, 39]

/-- What stands at a place: more bytes are waited for, a fault, or something. -/
inductive Got (α : Type) where
  | wait
  | wrong (f : Bs)
  | ok (a : α)

/-- The place of a byte among the first 65536; below 0: it is not there. -/
def fnd (c : UInt8) (b : Bs) : Int := indexByte (b.take 65536) c

theorem indexByte_app (x y : Bs) (c : UInt8) (h : 0 ≤ indexByte x c) : indexByte (x ++ y) c = indexByte x c := by
  induction x with
  | nil => simp [indexByte] at h
  | cons b l ih =>
    rw [List.cons_append]
    unfold indexByte at h ⊢
    by_cases hb : (b == c) = true
    · simp [hb]
    · simp only [hb, Bool.false_eq_true, if_false] at h ⊢
      by_cases h1 : indexByte l c = -1
      · simp [h1] at h
      · have hg := indexByte_ge l c
        rw [ih (by omega)]

theorem indexByte_lt (x : Bs) (c : UInt8) (h : 0 ≤ indexByte x c) : (indexByte x c).toNat < x.length := by
  induction x with
  | nil => simp [indexByte] at h
  | cons b l ih =>
    unfold indexByte at h ⊢
    by_cases hb : (b == c) = true
    · simp [hb]
    · simp only [hb, Bool.false_eq_true, if_false] at h ⊢
      by_cases h1 : indexByte l c = -1
      · simp [h1] at h
      · have hg := indexByte_ge l c
        have := ih (by omega)
        have e : (indexByte l c == -1) = false := by simpa using h1
        rw [e]
        simp only [Bool.false_eq_true, if_false, List.length_cons]
        omega

theorem indexByte_first (x y : Bs) (c : UInt8) (h : ∀ d ∈ x, d ≠ c) : indexByte (x ++ c :: y) c = x.length := by
  induction x with
  | nil => simp [indexByte]
  | cons b l ih =>
    have hb : (b == c) = false := by simpa using h b (by simp)
    have := ih (fun d hd => h d (by simp [hd]))
    rw [List.cons_append, indexByte, hb, this]
    have e : (((l.length : Int)) == -1) = false := by simp
    rw [e]; simp

theorem fnd_lt {c : UInt8} {a : Bs} (h : 0 ≤ fnd c a) : (fnd c a).toNat < a.length ∧ (fnd c a).toNat < 65536 := by
  have := indexByte_lt _ _ h
  rw [List.length_take] at this
  unfold fnd
  omega

theorem fnd_app {c : UInt8} {a : Bs} (b : Bs) (h : 0 ≤ fnd c a) : fnd c (a ++ b) = fnd c a := by
  unfold fnd at *
  rw [List.take_append, indexByte_app _ _ _ h]

theorem fnd_app_long {c : UInt8} {a : Bs} (b : Bs) (h : 65536 ≤ a.length) : fnd c (a ++ b) = fnd c a := by
  unfold fnd
  rw [List.take_append, show 65536 - a.length = 0 by omega, List.take_zero, List.append_nil]

def shown (c : UInt8) : Bs := if c.toNat < 32 ∨ 126 < c.toNat then [46] else [c]

section
variable (P : Bs → Int × Int)

/-- The number behind a sign, and how many bytes it has with what stands around it. -/
def count (big bad : Bs) (least most : Int) (b : Bs) : Got (Int × Nat) :=
  if fnd 13 b < 0 then (if 65536 < b.length then .wrong big else .wait)
  else if b.length ≤ (fnd 13 b).toNat + 1 then .wait
  else if (P ((b.take (fnd 13 b).toNat).drop 1)).2 ≠ 0 ∨ (P ((b.take (fnd 13 b).toNat).drop 1)).1 < least ∨ most < (P ((b.take (fnd 13 b).toNat).drop 1)).1 then .wrong bad
  else .ok ((P ((b.take (fnd 13 b).toNat).drop 1)).1, (fnd 13 b).toNat + 2)

/-- A text, and how many bytes it has with its count. -/
def bulk (b : Bs) : Got (Bs × Nat) :=
  match b.head? with
  | none => .wait
  | some c =>
    if c ≠ 36 then .wrong (fExp ++ shown c ++ [39]) else
    match count P fBigB fBadB 0 65536 b with
    | .wait => .wait
    | .wrong f => .wrong f
    | .ok (n, i) => if b.length < i + n.toNat + 2 then .wait else .ok ((b.drop i).take n.toNat, i + n.toNat + 2)

def bulksA : Nat → Nat → List Bs → Bs → Got (List Bs × Nat)
  | 0, m, l, _ => .ok (l, m)
  | k + 1, m, l, b =>
    match bulk P b with
    | .wait => .wait
    | .wrong f => .wrong f
    | .ok (s, n) => bulksA k (m + n) (l ++ [s]) (b.drop n)

def bulks (b : Bs) : Got (List Bs × Nat) :=
  match count P fBigM fBadM (-9223372036854775808) 1024 b with
  | .wait => .wait
  | .wrong f => .wrong f
  | .ok (n, i) => bulksA P n.toNat i [] (b.drop i)
end

def blank (c : UInt8) : Bool := (decide (9 ≤ c.toNat) && decide (c.toNat ≤ 13)) || c.toNat == 32

/-- A digit of sixteen. -/
def hexv (c : UInt8) : Option Nat :=
  if 48 ≤ c.toNat ∧ c.toNat ≤ 57 then some (c.toNat - 48)
  else if 97 ≤ c.toNat ∧ c.toNat ≤ 102 then some (c.toNat - 87)
  else if 65 ≤ c.toNat ∧ c.toNat ≤ 70 then some (c.toNat - 55)
  else none

/-- What stands behind a backslash, one byte c at least: the byte, and how many bytes say it. -/
def plainEsc (c : UInt8) : UInt8 :=
  if c = 110 then 10 else if c = 114 then 13 else if c = 116 then 9 else if c = 98 then 8 else if c = 97 then 7 else c

def escaped (c : UInt8) (r : Bs) : UInt8 × Nat :=
  match (if c = 120 then (match r with | x :: y :: _ => (match hexv x, hexv y with | some a, some b => some (UInt8.ofNat (a * 16 + b)) | _, _ => none) | _ => none) else none) with
  | some v => (v, 3)
  | none => (plainEsc c, 1)

/-- A quoted part behind its quote q: w is there already. -/
def quotedA (q : UInt8) (w : Bs) (s : Bs) : Option (Bs × Bs) :=
  match s with
  | [] => none
  | c :: r =>
    if c = q then some (w, r)
    else if c = 92 ∧ q = 39 ∧ r.head? = some 39 then quotedA q (w ++ [39]) (r.drop 1)
    else if c = 92 ∧ q = 34 ∧ r ≠ [] then
      quotedA q (w ++ [(escaped (r.headD 0) r.tail).1]) (r.drop (escaped (r.headD 0) r.tail).2)
    else quotedA q (w ++ [c]) r
termination_by s.length
decreasing_by all_goals (simp only [List.length_drop, List.length_cons]; omega)

def wordA (w : Bs) (s : Bs) : Option (Bs × Bs) :=
  match s with
  | [] => some (w, [])
  | c :: r =>
    if blank c = true then some (w, c :: r)
    else if c ≠ 34 ∧ c ≠ 39 then wordA (w ++ [c]) r
    else match quotedA c [] r with
      | none => none
      | some (p, t) => if t ≠ [] ∧ blank (t.headD 0) = false then none else some (w ++ p, t)
termination_by s.length

def skipB : Bs → Bs
  | [] => []
  | c :: r => if blank c = true then skipB r else c :: r

def wordsA (l : List Bs) (s : Bs) : Option (List Bs) :=
  match skipB s with
  | [] => some l
  | c :: r =>
    match wordA [] (c :: r) with
    | none => none
    | some (w, t) => if t.length < s.length then wordsA (l ++ [w]) t else none
termination_by s.length

/-- A line without its end. -/
def bare (s : Bs) : Bs := if s.getLast? = some 13 then s.dropLast else s

def line (b : Bs) : Got (List Bs × Nat) :=
  if fnd 10 b < 0 then (if 65536 < b.length then .wrong fLine else .wait)
  else match wordsA [] (bare (b.take (fnd 10 b).toNat)) with
    | none => .wrong fQuo
    | some l => if 1024 < l.length then .wrong fBadM else .ok (l, (fnd 10 b).toNat + 1)

section
variable (P : Bs → Int × Int)
/-- The first request, and how many bytes it has. -/
def first (b : Bs) : Got (List Bs × Nat) :=
  match b.head? with
  | none => .wait
  | some c => if c = 42 then bulks P b else line b

/-- All requests that stand whole, behind others. -/
def splitA (out : List (List Bs)) (n : Nat) (b : Bs) : List (List Bs) × Nat × Bs :=
  match first P b with
  | .wait => (out, n, [])
  | .wrong f => (out, n, f)
  | .ok (l, m) => if 0 < m ∧ m ≤ b.length then splitA (if l = [] then out else out ++ [l]) (n + m) (b.drop m) else (out, n, [])
termination_by b.length
decreasing_by simp only [List.length_drop]; omega

theorem count_ok {big bad : Bs} {least most : Int} {b : Bs} {n : Int} {i : Nat} (h : count P big bad least most b = .ok (n, i)) : 2 ≤ i ∧ i ≤ b.length ∧ least ≤ n ∧ n ≤ most := by
  unfold count at h
  split at h
  · split at h <;> cases h
  · split at h
    · cases h
    · split at h
      · cases h
      · rename_i h1 h2 h3
        injection h with h
        injection h with h4 h5
        omega

theorem count_app {big bad : Bs} {least most : Int} {a : Bs} (b : Bs) (h : count P big bad least most a ≠ .wait) : count P big bad least most (a ++ b) = count P big bad least most a := by
  unfold count at *
  by_cases h0 : fnd 13 a < 0
  · rw [if_pos h0] at h ⊢
    by_cases h1 : 65536 < a.length
    · rw [fnd_app_long b (by omega), if_pos h0, if_pos h1, if_pos (by rw [List.length_append]; omega)]
    · rw [if_neg h1] at h; exact absurd rfl h
  · rw [if_neg h0] at h ⊢
    have hl := (fnd_lt (c := 13) (a := a) (by omega)).1
    rw [fnd_app b (by omega), if_neg h0, List.take_append_of_le_length (by omega)]
    by_cases h1 : a.length ≤ (fnd 13 a).toNat + 1
    · rw [if_pos h1] at h; exact absurd rfl h
    · rw [if_neg h1] at h ⊢
      rw [if_neg (by rw [List.length_append]; omega)]

theorem count_fault {big bad : Bs} {least most : Int} {b f : Bs} (hb : big ≠ []) (hb' : bad ≠ []) (h : count P big bad least most b = .wrong f) : f ≠ [] := by
  unfold count at h
  split at h
  · split at h
    · injection h with h; subst h; exact hb
    · cases h
  · split at h
    · cases h
    · split at h
      · injection h with h; subst h; exact hb'
      · cases h

theorem head_app {a : Bs} (b : Bs) {c : UInt8} (h : a.head? = some c) : (a ++ b).head? = some c := by
  cases a with
  | nil => cases h
  | cons x a => simpa using h

theorem bulk_ok {b s : Bs} {n : Nat} (h : bulk P b = .ok (s, n)) : 4 ≤ n ∧ n ≤ b.length := by
  unfold bulk at h
  split at h
  · cases h
  · split at h
    · cases h
    · split at h
      · cases h
      · cases h
      · rename_i n' i hc
        have := count_ok P hc
        split at h
        · cases h
        · injection h with h
          injection h with h1 h2
          omega

theorem bulk_app {a : Bs} (b : Bs) (h : bulk P a ≠ .wait) : bulk P (a ++ b) = bulk P a := by
  unfold bulk at *
  cases hh : a.head? with
  | none => rw [hh] at h; exact absurd rfl h
  | some c =>
    rw [head_app b hh]
    rw [hh] at h
    simp only at h ⊢
    by_cases hc : c ≠ 36
    · rw [if_pos hc, if_pos hc]
    · rw [if_neg hc] at h ⊢
      rw [if_neg hc]
      have hne : count P fBigB fBadB 0 65536 a ≠ .wait := fun e => by rw [e] at h; exact absurd rfl h
      rw [count_app P b hne]
      cases hk : count P fBigB fBadB 0 65536 a with
      | wait => exact absurd hk hne
      | wrong f => rfl
      | ok p =>
        obtain ⟨n, i⟩ := p
        rw [hk] at h
        simp only at h ⊢
        have hb := count_ok P hk
        by_cases h1 : a.length < i + n.toNat + 2
        · rw [if_pos h1] at h; exact absurd rfl h
        · rw [if_neg h1, if_neg (by rw [List.length_append]; omega), List.drop_append_of_le_length (by omega), List.take_append_of_le_length (by rw [List.length_drop]; omega)]

theorem bulk_fault {b f : Bs} (h : bulk P b = .wrong f) : f ≠ [] := by
  unfold bulk at h
  split at h
  · cases h
  · split at h
    · injection h with h
      subst h
      simp
    · split at h
      · cases h
      · rename_i f' hc
        injection h with h
        subst h
        exact count_fault P (by decide) (by decide) hc
      · split at h <;> cases h

theorem bulksA_ok : ∀ (k m : Nat) (l : List Bs) (b : Bs) {l' : List Bs} {m' : Nat}, bulksA P k m l b = .ok (l', m') → m ≤ m' ∧ m' ≤ m + b.length ∧ l'.length = l.length + k
  | 0, m, l, b, l', m', h => by
    simp only [bulksA] at h
    injection h with h
    injection h with h1 h2
    subst h1; omega
  | k + 1, m, l, b, l', m', h => by
    simp only [bulksA] at h
    split at h
    · cases h
    · cases h
    · rename_i s n hc
      have h1 := bulk_ok P hc
      have h2 := bulksA_ok k _ _ _ h
      rw [List.length_drop, List.length_append] at h2
      simp only [List.length_cons, List.length_nil] at h2
      omega

theorem bulksA_app : ∀ (k m : Nat) (l : List Bs) (a b : Bs), bulksA P k m l a ≠ .wait → bulksA P k m l (a ++ b) = bulksA P k m l a
  | 0, _, _, _, _, _ => rfl
  | k + 1, m, l, a, b, h => by
    simp only [bulksA] at h ⊢
    have hne : bulk P a ≠ .wait := fun e => by rw [e] at h; exact absurd rfl h
    rw [bulk_app P b hne]
    cases hk : bulk P a with
    | wait => exact absurd hk hne
    | wrong f => rfl
    | ok p =>
      obtain ⟨s, n⟩ := p
      rw [hk] at h
      simp only at h ⊢
      have := bulk_ok P hk
      rw [List.drop_append_of_le_length (by omega)]
      exact bulksA_app k _ _ _ _ h

theorem bulksA_fault : ∀ (k m : Nat) (l : List Bs) (b : Bs) {f : Bs}, bulksA P k m l b = .wrong f → f ≠ []
  | 0, _, _, _, _, h => by cases h
  | k + 1, m, l, b, f, h => by
    simp only [bulksA] at h
    split at h
    · cases h
    · rename_i f' hc
      injection h with h
      subst h
      exact bulk_fault P hc
    · exact bulksA_fault k _ _ _ h

theorem bulks_ok {b : Bs} {l : List Bs} {m : Nat} (h : bulks P b = .ok (l, m)) : 0 < m ∧ m ≤ b.length ∧ l.length ≤ 1024 := by
  unfold bulks at h
  split at h
  · cases h
  · cases h
  · rename_i n i hc
    have h1 := count_ok P hc
    have h2 := bulksA_ok P _ _ _ _ h
    rw [List.length_drop, List.length_nil] at h2
    omega

theorem bulks_app {a : Bs} (b : Bs) (h : bulks P a ≠ .wait) : bulks P (a ++ b) = bulks P a := by
  unfold bulks at *
  have hne : count P fBigM fBadM (-9223372036854775808) 1024 a ≠ .wait := fun e => by rw [e] at h; exact absurd rfl h
  rw [count_app P b hne]
  cases hk : count P fBigM fBadM (-9223372036854775808) 1024 a with
  | wait => exact absurd hk hne
  | wrong f => rfl
  | ok p =>
    obtain ⟨n, i⟩ := p
    rw [hk] at h
    simp only at h ⊢
    have := count_ok P hk
    rw [List.drop_append_of_le_length (by omega)]
    exact bulksA_app P _ _ _ _ _ h

theorem bulks_fault {b f : Bs} (h : bulks P b = .wrong f) : f ≠ [] := by
  unfold bulks at h
  split at h
  · cases h
  · rename_i f' hc
    injection h with h
    subst h
    exact count_fault P (by decide) (by decide) hc
  · exact bulksA_fault P _ _ _ _ h
end

theorem line_ok {b : Bs} {l : List Bs} {m : Nat} (h : line b = .ok (l, m)) : 0 < m ∧ m ≤ b.length ∧ l.length ≤ 1024 := by
  unfold line at h
  split at h
  · split at h <;> cases h
  · split at h
    · cases h
    · split at h
      · cases h
      · rename_i h0 _ _ _ _
        have := fnd_lt (c := 10) (a := b) (by omega)
        injection h with h
        injection h with h1 h2
        subst h1
        omega

theorem line_app {a : Bs} (b : Bs) (h : line a ≠ .wait) : line (a ++ b) = line a := by
  unfold line at *
  by_cases h0 : fnd 10 a < 0
  · rw [if_pos h0] at h ⊢
    by_cases h1 : 65536 < a.length
    · rw [fnd_app_long b (by omega), if_pos h0, if_pos h1, if_pos (by rw [List.length_append]; omega)]
    · rw [if_neg h1] at h; exact absurd rfl h
  · rw [if_neg h0] at h ⊢
    have hl := (fnd_lt (c := 10) (a := a) (by omega)).1
    rw [fnd_app b (by omega), if_neg h0, List.take_append_of_le_length (by omega)]

theorem line_fault {b f : Bs} (h : line b = .wrong f) : f ≠ [] := by
  unfold line at h
  split at h
  · split at h
    · injection h with h; subst h; decide
    · cases h
  · split at h
    · injection h with h; subst h; decide
    · split at h
      · injection h with h; subst h; decide
      · cases h

section
variable (P : Bs → Int × Int)
theorem first_ok {b : Bs} {l : List Bs} {m : Nat} (h : first P b = .ok (l, m)) : 0 < m ∧ m ≤ b.length ∧ l.length ≤ 1024 := by
  unfold first at h
  split at h
  · cases h
  · split at h
    · exact bulks_ok P h
    · exact line_ok h

theorem first_app {a : Bs} (b : Bs) (h : first P a ≠ .wait) : first P (a ++ b) = first P a := by
  unfold first at *
  cases hh : a.head? with
  | none => rw [hh] at h; exact absurd rfl h
  | some c =>
    rw [head_app b hh]
    rw [hh] at h
    simp only at h ⊢
    by_cases hc : c = 42
    · rw [if_pos hc] at h ⊢
      rw [if_pos hc]
      exact bulks_app P b h
    · rw [if_neg hc] at h ⊢
      rw [if_neg hc]
      exact line_app b h

theorem first_fault {b f : Bs} (h : first P b = .wrong f) : f ≠ [] := by
  unfold first at h
  split at h
  · cases h
  · split at h
    · exact bulks_fault P h
    · exact line_fault h

theorem splitA_wait {out : List (List Bs)} {n : Nat} {b : Bs} (h : first P b = .wait) : splitA P out n b = (out, n, []) := by
  rw [splitA, h]
theorem splitA_wrong {out : List (List Bs)} {n : Nat} {b f : Bs} (h : first P b = .wrong f) : splitA P out n b = (out, n, f) := by
  rw [splitA, h]
theorem splitA_ok {out : List (List Bs)} {n : Nat} {b : Bs} {l : List Bs} {m : Nat} (h : first P b = .ok (l, m)) :
    splitA P out n b = splitA P (if l = [] then out else out ++ [l]) (n + m) (b.drop m) := by
  have := first_ok P h
  rw [splitA, h]
  simp only
  rw [if_pos ⟨this.1, this.2.1⟩]

/-- What is ahead is carried along. -/
theorem splitA_out (k : Nat) : ∀ (out : List (List Bs)) (n : Nat) (b : Bs), b.length ≤ k →
    splitA P out n b = (out ++ (splitA P [] 0 b).1, n + (splitA P [] 0 b).2.1, (splitA P [] 0 b).2.2) ∧ (splitA P [] 0 b).2.1 ≤ b.length := by
  induction k with
  | zero =>
    intro out n b hb
    have h : first P b = .wait := by
      have : b = [] := List.eq_nil_of_length_eq_zero (by omega)
      subst this; rfl
    rw [splitA_wait P h, splitA_wait P h]; simp
  | succ k ih =>
    intro out n b hb
    cases h : first P b with
    | wait => rw [splitA_wait P h, splitA_wait P h]; simp
    | wrong f => rw [splitA_wrong P h, splitA_wrong P h]; simp
    | ok p =>
      obtain ⟨l, m⟩ := p
      have h1 := first_ok P h
      have hl : (b.drop m).length ≤ k := by rw [List.length_drop]; omega
      rw [splitA_ok P h, splitA_ok P h]
      obtain ⟨e1, e2⟩ := ih (if l = [] then out else out ++ [l]) (n + m) (b.drop m) hl
      obtain ⟨e3, _⟩ := ih (if l = [] then [] else [] ++ [l]) (0 + m) (b.drop m) hl
      rw [e1, e3]
      rw [List.length_drop] at e2
      refine ⟨?_, by simp only; omega⟩
      refine Prod.ext ?_ (Prod.ext ?_ rfl)
      · by_cases hn : l = []
        · simp [hn]
        · simp [hn]
      · simp only; omega

def split (b : Bs) : List (List Bs) × Nat × Bs := splitA P [] 0 b

theorem split_le (b : Bs) : (split P b).2.1 ≤ b.length := (splitA_out P b.length [] 0 b (Nat.le_refl _)).2

/-- More bytes behind: what was told is told, and what is left goes on. -/
theorem splitA_app (k : Nat) : ∀ (a b : Bs), a.length ≤ k →
    ((split P a).2.2 ≠ [] → split P (a ++ b) = split P a) ∧
    ((split P a).2.2 = [] → split P (a ++ b) = ((split P a).1 ++ (split P (a.drop (split P a).2.1 ++ b)).1, (split P a).2.1 + (split P (a.drop (split P a).2.1 ++ b)).2.1, (split P (a.drop (split P a).2.1 ++ b)).2.2)) := by
  induction k with
  | zero =>
    intro a b ha
    have : a = [] := List.eq_nil_of_length_eq_zero (by omega)
    subst this
    have h : split P [] = ([], 0, []) := splitA_wait P rfl
    rw [h]; simp
  | succ k ih =>
    intro a b ha
    cases h : first P a with
    | wait =>
      have e : split P a = ([], 0, []) := splitA_wait P h
      rw [e]; simp
    | wrong f =>
      have e : split P a = ([], 0, f) := splitA_wrong P h
      have e2 : split P (a ++ b) = ([], 0, f) := splitA_wrong P (by rw [first_app P b (by rw [h]; exact fun h => by cases h)]; exact h)
      have := first_fault P h
      rw [e, e2]; simp [this]
    | ok p =>
      obtain ⟨l, m⟩ := p
      have h1 := first_ok P h
      have h2 : first P (a ++ b) = .ok (l, m) := by rw [first_app P b (by rw [h]; exact fun h => by cases h)]; exact h
      have hl : (a.drop m).length ≤ k := by rw [List.length_drop]; omega
      have e1 : split P a = ((if l = [] then [] else [l]) ++ (split P (a.drop m)).1, m + (split P (a.drop m)).2.1, (split P (a.drop m)).2.2) := by
        unfold split
        rw [splitA_ok P h, (splitA_out P _ _ _ (a.drop m) (Nat.le_refl _)).1]
        by_cases hn : l = [] <;> simp [hn]
      have e2 : split P (a ++ b) = ((if l = [] then [] else [l]) ++ (split P (a.drop m ++ b)).1, m + (split P (a.drop m ++ b)).2.1, (split P (a.drop m ++ b)).2.2) := by
        unfold split
        rw [splitA_ok P h2, (splitA_out P _ _ _ ((a ++ b).drop m) (Nat.le_refl _)).1, List.drop_append_of_le_length h1.2.1]
        by_cases hn : l = [] <;> simp [hn]
      obtain ⟨i1, i2⟩ := ih (a.drop m) b hl
      rw [e1, e2]
      simp only
      refine ⟨fun hf => by rw [i1 hf], fun hf => ?_⟩
      rw [i2 hf, List.drop_drop]
      simp only [List.append_assoc, Nat.add_assoc]

theorem split_app_fault {a : Bs} (b : Bs) (h : (split P a).2.2 ≠ []) : split P (a ++ b) = split P a := (splitA_app P _ a b (Nat.le_refl _)).1 h
theorem split_app {a : Bs} (b : Bs) (h : (split P a).2.2 = []) : split P (a ++ b) = ((split P a).1 ++ (split P (a.drop (split P a).2.1 ++ b)).1, (split P a).2.1 + (split P (a.drop (split P a).2.1 ++ b)).2.1, (split P (a.drop (split P a).2.1 ++ b)).2.2) := (splitA_app P _ a b (Nat.le_refl _)).2 h
end
end Go.Proofs.YtdfkdbdhaaiadaaDoor

/- Merged: Snapshots: the plain word; Snapshots: plain laws: there and back, only what is told, what is spoilt; Snapshots: plain laws: what is cut or spoilt is refused; Snapshots: four bits of the sum at once; The sum of some bytes, by the program and by the document; Numbers as bytes and back, by the program; Texts, as the walk has them; The writer; Rows of structs in memory, and entries of a store; The writer: an entry; The writer: a snapshot without its sum. -/
import Derived.RowKit
import Derived.Test.YtfhlhpknobkplaaDoorShelf
import Derived.Test.YtfhlhpknobkplaaDoorProg
import Derived.WalkKit
import Derived.WalkSpells
import Derived.KernelRfl
import Derived.Lib.Hide
import Derived.Lib.EndianBits
import Derived.Test.YtfhlhpknobkplaaDoorZFloat
import Derived.Deep.OwnRows
set_option linter.all false
namespace Go.Proofs.YtfhlhpknobkplaaDoor

abbrev Bs := List UInt8

/-- A value: of a string, a list or a set, a sorted set, a hash. -/
structure Val where
  kind : Int
  s : Bs
  L : List Bs
  Z : List (Bs × Int)
  H : List (Bs × Bs)
structure Ent where
  key : Bs
  v : Val
  till : Int
structure Hist where
  id : Nat
  off : Int
  sec : Nat
  fork : Int

/-- Is a text ahead of another one? -/
def ltB : Bs → Bs → Bool
  | [], [] => false
  | [], _ :: _ => true
  | _ :: _, [] => false
  | a :: x, b :: y => if a < b then true else if b < a then false else ltB x y
/-- Does a row rise? -/
def risesBy {α : Type} (lt : α → α → Bool) : List α → Bool
  | a :: b :: r => lt a b && risesBy lt (b :: r)
  | _ => true
def ltZ (a b : Bs × Int) : Bool := if a.2 < b.2 then true else if b.2 < a.2 then false else ltB a.1 b.1
def shortB (s : Bs) : Bool := decide (s.length ≤ 65536)
def sizedN (n : Nat) : Bool := decide (1 ≤ n ∧ n ≤ 65536)
def distinctB : List Bs → Bool
  | [] => true
  | a :: r => !(r.contains a) && distinctB r
/-- May a value be? -/
def valOk (v : Val) : Bool :=
  if v.kind = 1 then shortB v.s && (v.L.isEmpty && v.Z.isEmpty && v.H.isEmpty)
  else if v.kind = 2 then v.s.isEmpty && v.Z.isEmpty && v.H.isEmpty && sizedN v.L.length && v.L.all shortB
  else if v.kind = 3 then v.s.isEmpty && v.Z.isEmpty && v.H.isEmpty && sizedN v.L.length && v.L.all shortB && risesBy ltB v.L
  else if v.kind = 4 then v.s.isEmpty && v.L.isEmpty && v.H.isEmpty && sizedN v.Z.length && v.Z.all (fun z => shortB z.1) && risesBy ltZ v.Z && distinctB (v.Z.map (·.1))
  else if v.kind = 5 then v.s.isEmpty && v.L.isEmpty && v.Z.isEmpty && sizedN v.H.length && v.H.all (fun f => shortB f.1 && shortB f.2) && risesBy ltB (v.H.map (·.1))
  else false
def entOk (e : Ent) : Bool := shortB e.key && decide (-1 ≤ e.till ∧ e.till ≤ 1099511627776) && valOk e.v
/-- Is a row an image? -/
def checkE (l : List Ent) : Int :=
  if 65536 < l.length then 3 else if risesBy ltB (l.map (·.key)) && l.all entOk then 0 else 90

/-- A number's lowest bytes, the lowest one first. -/
def leB : Nat → Nat → Bs
  | 0, _ => []
  | k + 1, v => UInt8.ofNat (v % 256) :: leB k (v / 256)
/-- The number of bytes. -/
def leV : Bs → Nat
  | [] => 0
  | c :: r => c.toNat + 256 * leV r
def textB (s : Bs) : Bs := leB 4 s.length ++ s
/-- A number of 64 bits, without its sign. -/
def wrapU (n : Int) : Nat := (n % 18446744073709551616).toNat
def bodyV (v : Val) : Bs :=
  if v.kind = 1 then textB v.s
  else if v.kind = 4 then leB 4 v.Z.length ++ v.Z.flatMap (fun z => textB z.1 ++ leB 8 (wrapU z.2))
  else if v.kind = 5 then leB 4 v.H.length ++ v.H.flatMap (fun f => textB f.1 ++ textB f.2)
  else leB 4 v.L.length ++ v.L.flatMap textB
def entB (e : Ent) : Bs := UInt8.ofNat (e.v.kind % 256).toNat :: (leB 8 (wrapU e.till) ++ textB e.key ++ bodyV e.v)
def signB : Bs := [77, 73, 76, 76, 80, 79, 78, 68, 1]
def frontB (id : Nat) (off : Int) (n : Nat) : Bs := signB ++ leB 8 id ++ leB 8 (wrapU off) ++ leB 4 n
def writtenB (id : Nat) (off : Int) (l : List Ent) : Bs := frontB id off l.length ++ l.flatMap entB

/-- A bit's step of the sum. -/
def bitS (s : Nat) : Nat := if s % 2 = 1 then (s / 2) ^^^ 0xedb88320 else s / 2
def byteS (s : Nat) (c : UInt8) : Nat := bitS (bitS (bitS (bitS (bitS (bitS (bitS (bitS (s ^^^ c.toNat))))))))
def sumS (s : Nat) (l : Bs) : Nat := l.foldl byteS s
def sumB (l : Bs) : Nat := 0xffffffff ^^^ sumS 0xffffffff l

/-- A snapshot's bytes; or why there are none. -/
def encB (id : Nat) (off : Int) (l : List Ent) : Except Int Bs :=
  if checkE l ≠ 0 then .error (checkE l)
  else if id = 0 then .error 192
  else if off < 0 ∨ 1125899906842624 < off then .error 190
  else .ok (writtenB id off l ++ leB 4 (sumB (writtenB id off l)))

def takeB (n : Nat) (b : Bs) : Option (Bs × Bs) := if n ≤ b.length then some (b.take n, b.drop n) else none
def numB (k : Nat) (b : Bs) : Option (Nat × Bs) := match takeB k b with | some (x, r) => some (leV x, r) | none => none
def txtB (b : Bs) : Option (Bs × Bs) := match numB 4 b with | some (n, r) => takeB n r | none => none
/-- A number of 64 bits, with its sign. -/
def wrapS (n : Nat) : Int := if n < 9223372036854775808 then n else (n : Int) - 18446744073709551616
def getL : Nat → Bs → Option (List Bs × Bs)
  | 0, b => some ([], b)
  | n + 1, b => match txtB b with
    | none => none
    | some (x, r) => match getL n r with | none => none | some (l, q) => some (x :: l, q)
def getZ : Nat → Bs → Option (List (Bs × Int) × Bs)
  | 0, b => some ([], b)
  | n + 1, b => match txtB b with
    | none => none
    | some (x, r) => match numB 8 r with
      | none => none
      | some (k, r) => match getZ n r with | none => none | some (l, q) => some ((x, wrapS k) :: l, q)
def getH : Nat → Bs → Option (List (Bs × Bs) × Bs)
  | 0, b => some ([], b)
  | n + 1, b => match txtB b with
    | none => none
    | some (x, r) => match txtB r with
      | none => none
      | some (y, r) => match getH n r with | none => none | some (l, q) => some ((x, y) :: l, q)
def getV (k : Int) (b : Bs) : Option (Val × Bs) :=
  if k = 1 then match txtB b with | none => none | some (s, r) => some (⟨k, s, [], [], []⟩, r)
  else match numB 4 b with
    | none => none
    | some (n, r) =>
      if k = 2 ∨ k = 3 then match getL n r with | none => none | some (l, q) => some (⟨k, [], l, [], []⟩, q)
      else if k = 4 then match getZ n r with | none => none | some (l, q) => some (⟨k, [], [], l, []⟩, q)
      else if k = 5 then match getH n r with | none => none | some (l, q) => some (⟨k, [], [], [], l⟩, q)
      else if n = 0 then some (⟨k, [], [], [], []⟩, r) else none
def getE (b : Bs) : Option (Ent × Bs) :=
  match numB 1 b with
  | none => none
  | some (k, r) => match numB 8 r with
    | none => none
    | some (a, r) => match txtB r with
      | none => none
      | some (key, r) => match getV k r with | none => none | some (v, q) => some (⟨key, v, wrapS a⟩, q)
def getEs : Nat → Bs → Option (List Ent × Bs)
  | 0, b => some ([], b)
  | n + 1, b => match getE b with
    | none => none
    | some (e, r) => match getEs n r with | none => none | some (l, q) => some (e :: l, q)
/-- What stands between the sign and the sum. -/
def getAll (b : Bs) : Option ((Nat × Int × List Ent) × Bs) :=
  match numB 8 b with
  | none => none
  | some (id, r) => match numB 8 r with
    | none => none
    | some (off, r) => match numB 4 r with
      | none => none
      | some (n, r) => match getEs n r with | none => none | some (l, q) => some ((id, wrapS off, l), q)
/-- The history and the store of a snapshot; or why there are none. -/
def decB (b : Bs) : Except Int (Nat × Int × List Ent) :=
  if b.length < 33 ∨ b.take 9 ≠ signB then .error 200
  else if leV (b.drop (b.length - 4)) ≠ sumB (b.take (b.length - 4)) then .error 201
  else match getAll ((b.take (b.length - 4)).drop 9) with
    | none => .error 200
    | some ((id, off, l), _) => match encB id off l with
      | .ok x => if x = b then .ok (id, off, l) else .error 200
      | .error _ => .error 200
end Go.Proofs.YtfhlhpknobkplaaDoor
namespace Go.Proofs.YtfhlhpknobkplaaDoor

theorem leB_len : ∀ (k v : Nat), (leB k v).length = k
  | 0, _ => rfl
  | k + 1, v => by rw [leB, List.length_cons, leB_len k]
theorem leV_leB : ∀ (k v : Nat), v < 256 ^ k → leV (leB k v) = v
  | 0, v, h => by simp at h; subst h; rfl
  | k + 1, v, h => by
    rw [leB, leV, leV_leB k (v / 256) (by rw [Nat.div_lt_iff_lt_mul (by decide)]; rw [Nat.pow_succ] at h; exact h)]
    have : (UInt8.ofNat (v % 256)).toNat = v % 256 := by simp
    rw [this]
    omega
theorem leV_lt : ∀ l : Bs, leV l < 256 ^ l.length
  | [] => by simp [leV]
  | c :: r => by
    have := leV_lt r
    have h2 := c.toNat_lt
    rw [leV, List.length_cons, Nat.pow_succ]
    omega
theorem leB_leV : ∀ l : Bs, leB l.length (leV l) = l
  | [] => rfl
  | c :: r => by
    have h2 := c.toNat_lt
    rw [leV, List.length_cons, leB]
    have e1 : (c.toNat + 256 * leV r) % 256 = c.toNat := by omega
    have e2 : (c.toNat + 256 * leV r) / 256 = leV r := by omega
    rw [e1, e2, leB_leV r]
    simp
theorem leV_inj {a b : Bs} (hl : a.length = b.length) (h : leV a = leV b) : a = b := by
  rw [← leB_leV a, ← leB_leV b, hl, h]

theorem wrapS_wrapU {n : Int} (h1 : -9223372036854775808 ≤ n) (h2 : n ≤ 9223372036854775807) : wrapS (wrapU n) = n := by
  unfold wrapS wrapU
  by_cases h : 0 ≤ n
  · have : n % 18446744073709551616 = n := Int.emod_eq_of_lt h (by omega)
    rw [this, if_pos (by omega)]
    omega
  · have : n % 18446744073709551616 = n + 18446744073709551616 := by omega
    rw [this, if_neg (by omega)]
    omega
theorem wrapU_lt (n : Int) : wrapU n < 256 ^ 8 := by unfold wrapU; omega

theorem takeB_app {x r : Bs} {n : Nat} (h : x.length = n) : takeB n (x ++ r) = some (x, r) := by
  subst h
  unfold takeB
  rw [if_pos (by simp), List.take_left, List.drop_left]
theorem numB_app {k v : Nat} {r : Bs} (h : v < 256 ^ k) : numB k (leB k v ++ r) = some (v, r) := by
  unfold numB
  rw [takeB_app (leB_len k v)]
  simp only [leV_leB k v h]
theorem txtB_app {s r : Bs} (h : s.length < 4294967296) : txtB (textB s ++ r) = some (s, r) := by
  unfold txtB textB
  rw [List.append_assoc, numB_app (by omega)]
  exact takeB_app rfl
theorem getL_app : ∀ (L : List Bs) (r : Bs), (∀ s ∈ L, s.length < 4294967296) → getL L.length (L.flatMap textB ++ r) = some (L, r)
  | [], r, _ => rfl
  | s :: L, r, h => by
    rw [List.flatMap_cons, List.length_cons, getL, List.append_assoc, txtB_app (h s (by simp))]
    simp only
    rw [getL_app L r (fun x hx => h x (by simp [hx]))]
theorem getZ_app : ∀ (L : List (Bs × Int)) (r : Bs), (∀ z ∈ L, z.1.length < 4294967296 ∧ -9223372036854775808 ≤ z.2 ∧ z.2 ≤ 9223372036854775807) → getZ L.length (L.flatMap (fun z => textB z.1 ++ leB 8 (wrapU z.2)) ++ r) = some (L, r)
  | [], r, _ => rfl
  | z :: L, r, h => by
    obtain ⟨h1, h2, h3⟩ := h z (by simp)
    rw [List.flatMap_cons, List.length_cons, getZ, List.append_assoc, List.append_assoc, txtB_app h1]
    simp only
    rw [numB_app (wrapU_lt _)]
    simp only
    rw [getZ_app L r (fun x hx => h x (by simp [hx])), wrapS_wrapU h2 h3]
theorem getH_app : ∀ (L : List (Bs × Bs)) (r : Bs), (∀ f ∈ L, f.1.length < 4294967296 ∧ f.2.length < 4294967296) → getH L.length (L.flatMap (fun f => textB f.1 ++ textB f.2) ++ r) = some (L, r)
  | [], r, _ => rfl
  | f :: L, r, h => by
    obtain ⟨h1, h2⟩ := h f (by simp)
    rw [List.flatMap_cons, List.length_cons, getH, List.append_assoc, List.append_assoc, txtB_app h1]
    simp only
    rw [txtB_app h2]
    simp only
    rw [getH_app L r (fun x hx => h x (by simp [hx]))]

/-- The scores of a value are numbers of 64 bits. -/
def Val.Fits (v : Val) : Prop := ∀ z ∈ v.Z, -9223372036854775808 ≤ z.2 ∧ z.2 ≤ 9223372036854775807

theorem getV_app {v : Val} {r : Bs} (h : valOk v = true) (hf : v.Fits) : getV v.kind (bodyV v ++ r) = some (v, r) := by
  obtain ⟨k, s, L, Z, H⟩ := v
  unfold valOk at h
  simp only at h ⊢
  unfold bodyV getV
  by_cases h1 : k = 1
  · simp only [h1, if_true, shortB, Bool.and_eq_true, List.isEmpty_iff, decide_eq_true_eq] at h ⊢
    obtain ⟨hs, ⟨rfl, rfl⟩, rfl⟩ := h
    rw [txtB_app (by omega)]
  · by_cases h2 : k = 2
    · subst h2
      simp [shortB, sizedN, List.isEmpty_iff] at h
      obtain ⟨⟨⟨⟨rfl, rfl⟩, rfl⟩, h3⟩, h4⟩ := h
      simp only [show ¬ ((2 : Int) = 1) by decide, show ¬ ((2 : Int) = 4) by decide, show ¬ ((2 : Int) = 5) by decide, if_false, true_or, if_true]
      rw [List.append_assoc, numB_app (by omega)]
      simp only
      rw [getL_app L r (fun s hs => by have := h4 s hs; omega)]
    · by_cases h3 : k = 3
      · subst h3
        simp [shortB, sizedN, List.isEmpty_iff] at h
        obtain ⟨⟨⟨⟨⟨rfl, rfl⟩, rfl⟩, h3⟩, h4⟩, _⟩ := h
        simp only [show ¬ ((3 : Int) = 1) by decide, show ¬ ((3 : Int) = 4) by decide, show ¬ ((3 : Int) = 5) by decide, if_false, or_true, if_true]
        rw [List.append_assoc, numB_app (by omega)]
        simp only
        rw [getL_app L r (fun s hs => by have := h4 s hs; omega)]
      · by_cases h4 : k = 4
        · subst h4
          simp [shortB, sizedN, List.isEmpty_iff] at h
          obtain ⟨⟨⟨⟨⟨⟨rfl, rfl⟩, rfl⟩, h3⟩, h4⟩, _⟩, _⟩ := h
          simp only [show ¬ ((4 : Int) = 1) by decide, show ¬ ((4 : Int) = 2 ∨ (4 : Int) = 3) by decide, if_false, if_true]
          rw [List.append_assoc, numB_app (by omega)]
          simp only
          rw [getZ_app Z r (fun z hz => ⟨by have := h4 z.1 z.2 hz; omega, hf z hz⟩)]
        · by_cases h5 : k = 5
          · subst h5
            simp [shortB, sizedN, List.isEmpty_iff] at h
            obtain ⟨⟨⟨⟨⟨rfl, rfl⟩, rfl⟩, h3⟩, h4⟩, _⟩ := h
            simp only [show ¬ ((5 : Int) = 1) by decide, show ¬ ((5 : Int) = 2 ∨ (5 : Int) = 3) by decide, show ¬ ((5 : Int) = 4) by decide, if_false, if_true]
            rw [List.append_assoc, numB_app (by omega)]
            simp only
            rw [getH_app H r (fun f hf2 => by have := h4 f.1 f.2 hf2; omega)]
          · simp [h1, h2, h3, h4, h5] at h
theorem valOk_kind {v : Val} (h : valOk v = true) : 1 ≤ v.kind ∧ v.kind ≤ 5 := by
  unfold valOk at h
  by_cases h1 : v.kind = 1
  · omega
  · by_cases h2 : v.kind = 2
    · omega
    · by_cases h3 : v.kind = 3
      · omega
      · by_cases h4 : v.kind = 4
        · omega
        · by_cases h5 : v.kind = 5
          · omega
          · simp [h1, h2, h3, h4, h5] at h
theorem getE_app {e : Ent} {r : Bs} (h : entOk e = true) (hf : e.v.Fits) : getE (entB e ++ r) = some (e, r) := by
  obtain ⟨key, v, till⟩ := e
  simp only [entOk, shortB, Bool.and_eq_true, decide_eq_true_eq] at h
  obtain ⟨⟨h1, h2, h3⟩, h4⟩ := h
  have hk := valOk_kind h4
  unfold entB getE
  simp only
  have e1 : UInt8.ofNat (v.kind % 256).toNat :: (leB 8 (wrapU till) ++ textB key ++ bodyV v) ++ r = leB 1 v.kind.toNat ++ (leB 8 (wrapU till) ++ (textB key ++ (bodyV v ++ r))) := by
    have : (v.kind % 256).toNat = v.kind.toNat % 256 := by omega
    rw [this]
    simp [leB]
  rw [e1, numB_app (by omega)]
  simp only
  rw [numB_app (wrapU_lt _)]
  simp only
  rw [txtB_app (by omega)]
  simp only
  have e2 : ((v.kind.toNat : Nat) : Int) = v.kind := by omega
  rw [e2, getV_app h4 hf]
  simp only
  rw [wrapS_wrapU (by omega) (by omega)]
theorem getEs_app : ∀ (l : List Ent) (r : Bs), (∀ e ∈ l, entOk e = true ∧ e.v.Fits) → getEs l.length (l.flatMap entB ++ r) = some (l, r)
  | [], r, _ => rfl
  | e :: l, r, h => by
    obtain ⟨h1, h2⟩ := h e (by simp)
    rw [List.flatMap_cons, List.length_cons, getEs, List.append_assoc, getE_app h1 h2]
    simp only
    rw [getEs_app l r (fun x hx => h x (by simp [hx]))]

theorem checkE_ok {l : List Ent} (h : checkE l = 0) : l.length ≤ 65536 ∧ ∀ e ∈ l, entOk e = true := by
  unfold checkE at h
  split at h
  · omega
  · rename_i hl
    split at h
    · rename_i hr
      rw [Bool.and_eq_true, List.all_eq_true] at hr
      exact ⟨by omega, hr.2⟩
    · omega

theorem writtenB_drop (id : Nat) (off : Int) (l : List Ent) : (writtenB id off l).drop 9 = leB 8 id ++ (leB 8 (wrapU off) ++ (leB 4 l.length ++ l.flatMap entB)) := by
  unfold writtenB frontB
  simp only [List.append_assoc]
  rw [show (9 : Nat) = signB.length from rfl, List.drop_left]
theorem getAll_app {id : Nat} {off : Int} {l : List Ent} (r : Bs) (hc : checkE l = 0) (hi : id < 18446744073709551616) (ho : 0 ≤ off ∧ off ≤ 1125899906842624) (hf : ∀ e ∈ l, e.v.Fits) :
    getAll ((leB 8 id ++ (leB 8 (wrapU off) ++ (leB 4 l.length ++ l.flatMap entB))) ++ r) = some ((id, off, l), r) := by
  obtain ⟨h1, h2⟩ := checkE_ok hc
  unfold getAll
  simp only [List.append_assoc]
  rw [numB_app (by omega)]
  simp only
  rw [numB_app (wrapU_lt _)]
  simp only
  rw [numB_app (by omega)]
  simp only
  rw [getEs_app l r (fun e he => ⟨h2 e he, hf e he⟩)]
  simp only
  rw [wrapS_wrapU (by omega) (by omega)]

theorem written_len (id : Nat) (off : Int) (l : List Ent) : 29 ≤ (writtenB id off l).length := by
  unfold writtenB frontB
  simp only [List.length_append, leB_len]
  have : signB.length = 9 := rfl
  omega
theorem encB_ok {id : Nat} {off : Int} {l : List Ent} {b : Bs} (h : encB id off l = .ok b) : checkE l = 0 ∧ id ≠ 0 ∧ (0 ≤ off ∧ off ≤ 1125899906842624) ∧ b = writtenB id off l ++ leB 4 (sumB (writtenB id off l)) := by
  unfold encB at h
  by_cases h1 : checkE l = 0
  · rw [if_neg (by omega)] at h
    by_cases h2 : id = 0
    · rw [if_pos h2] at h; cases h
    · rw [if_neg h2] at h
      by_cases h3 : off < 0 ∨ 1125899906842624 < off
      · rw [if_pos h3] at h; cases h
      · rw [if_neg h3] at h
        cases h
        exact ⟨h1, h2, by omega, rfl⟩
  · rw [if_pos h1] at h; cases h

theorem bitS_lt {s : Nat} (h : s < 2 ^ 32) : bitS s < 2 ^ 32 := by
  unfold bitS
  split
  · exact Nat.xor_lt_two_pow (by omega) (by decide)
  · omega
theorem byteS_lt {s : Nat} (h : s < 2 ^ 32) (c : UInt8) : byteS s c < 2 ^ 32 := by
  have hc := c.toNat_lt
  exact bitS_lt (bitS_lt (bitS_lt (bitS_lt (bitS_lt (bitS_lt (bitS_lt (bitS_lt (Nat.xor_lt_two_pow h (by omega)))))))))
theorem sumS_lt : ∀ (l : Bs) {s : Nat}, s < 2 ^ 32 → sumS s l < 2 ^ 32
  | [], _, h => h
  | c :: l, _, h => sumS_lt l (byteS_lt h c)
theorem sumB_lt (l : Bs) : sumB l < 2 ^ 32 := Nat.xor_lt_two_pow (by decide) (sumS_lt l (by decide))

theorem dec_enc {id : Nat} {off : Int} {l : List Ent} {b : Bs} (hi : id < 18446744073709551616) (hf : ∀ e ∈ l, e.v.Fits) (h : encB id off l = .ok b) : decB b = .ok (id, off, l) := by
  obtain ⟨h1, h2, h3, rfl⟩ := encB_ok h
  have hw := written_len id off l
  have hs := sumB_lt (writtenB id off l)
  unfold decB
  have hl : (writtenB id off l ++ leB 4 (sumB (writtenB id off l))).length - 4 = (writtenB id off l).length := by rw [List.length_append, leB_len]; omega
  have h9 : (writtenB id off l ++ leB 4 (sumB (writtenB id off l))).take 9 = signB := by
    unfold writtenB frontB
    simp only [List.append_assoc]
    rw [show (9 : Nat) = signB.length from rfl, List.take_left]
  rw [if_neg (by rw [not_or]; refine ⟨by rw [List.length_append, leB_len]; omega, fun hn => hn h9⟩), hl, List.drop_left, List.take_left, leV_leB 4 _ (by omega), if_neg (by simp), writtenB_drop]
  have := getAll_app [] h1 hi h3 hf
  rw [List.append_nil] at this
  rw [this]
  simp only [h, if_true]
theorem enc_dec {id : Nat} {off : Int} {l : List Ent} {b : Bs} (h : decB b = .ok (id, off, l)) : encB id off l = .ok b := by
  unfold decB at h
  split at h
  · cases h
  · split at h
    · cases h
    · split at h
      · cases h
      · rename_i i o m q hg
        cases he : encB i o m with
        | error k => rw [he] at h; cases h
        | ok x =>
          rw [he] at h
          simp only at h
          split at h
          · rename_i hx
            cases h
            rw [he, hx]
          · cases h
end Go.Proofs.YtfhlhpknobkplaaDoor
namespace Go.Proofs.YtfhlhpknobkplaaDoor

theorem wrapS_in {n : Nat} (h : n < 18446744073709551616) : -9223372036854775808 ≤ wrapS n ∧ wrapS n ≤ 9223372036854775807 := by
  unfold wrapS; split <;> omega
theorem numB_lt {k v : Nat} {b r : Bs} (h : numB k b = some (v, r)) : v < 256 ^ k := by
  unfold numB takeB at h
  by_cases hk : k ≤ b.length
  · rw [if_pos hk] at h
    simp only [Option.some.injEq, Prod.mk.injEq] at h
    obtain ⟨rfl, _⟩ := h
    have := leV_lt (b.take k)
    rwa [List.length_take, Nat.min_eq_left hk] at this
  · rw [if_neg hk] at h; cases h
theorem getZ_in : ∀ (n : Nat) (b : Bs) {l : List (Bs × Int)} {r : Bs}, getZ n b = some (l, r) → ∀ z ∈ l, -9223372036854775808 ≤ z.2 ∧ z.2 ≤ 9223372036854775807
  | 0, b, l, r, h => by
    rw [getZ] at h; cases h; intro z hz; cases hz
  | n + 1, b, l, r, h => by
    rw [getZ] at h
    cases h1 : txtB b with
    | none => rw [h1] at h; cases h
    | some p =>
      obtain ⟨x, r1⟩ := p
      rw [h1] at h
      simp only at h
      cases h2 : numB 8 r1 with
      | none => rw [h2] at h; cases h
      | some p =>
        obtain ⟨k, r2⟩ := p
        rw [h2] at h
        simp only at h
        cases h3 : getZ n r2 with
        | none => rw [h3] at h; cases h
        | some p =>
          obtain ⟨l', q⟩ := p
          rw [h3] at h
          simp only [Option.some.injEq, Prod.mk.injEq] at h
          obtain ⟨rfl, rfl⟩ := h
          intro z hz
          rcases List.mem_cons.1 hz with rfl | hz
          · exact wrapS_in (numB_lt h2)
          · exact getZ_in n r2 h3 z hz
theorem getV_in {k : Int} {b : Bs} {v : Val} {r : Bs} (h : getV k b = some (v, r)) : v.Fits := by
  unfold getV at h
  have nil : ∀ k s L H, (⟨k, s, L, [], H⟩ : Val).Fits := fun _ _ _ _ z hz => by cases hz
  by_cases h1 : k = 1
  · rw [if_pos h1] at h
    cases h2 : txtB b with
    | none => rw [h2] at h; cases h
    | some p => obtain ⟨s, q⟩ := p; rw [h2] at h; cases h; exact nil _ _ _ _
  · rw [if_neg h1] at h
    cases h2 : numB 4 b with
    | none => rw [h2] at h; cases h
    | some p =>
      obtain ⟨n, q⟩ := p
      rw [h2] at h
      simp only at h
      by_cases h3 : k = 2 ∨ k = 3
      · rw [if_pos h3] at h
        cases h4 : getL n q with
        | none => rw [h4] at h; cases h
        | some p => rw [h4] at h; cases h; exact nil _ _ _ _
      · rw [if_neg h3] at h
        by_cases h4 : k = 4
        · rw [if_pos h4] at h
          cases h5 : getZ n q with
          | none => rw [h5] at h; cases h
          | some p => obtain ⟨l, q2⟩ := p; rw [h5] at h; cases h; exact getZ_in _ _ h5
        · rw [if_neg h4] at h
          by_cases h5 : k = 5
          · rw [if_pos h5] at h
            cases h6 : getH n q with
            | none => rw [h6] at h; cases h
            | some p => rw [h6] at h; cases h; exact nil _ _ _ _
          · rw [if_neg h5] at h
            split at h
            · cases h; exact nil _ _ _ _
            · cases h
theorem getE_in {b : Bs} {e : Ent} {r : Bs} (h : getE b = some (e, r)) : e.v.Fits := by
  unfold getE at h
  cases h1 : numB 1 b with
  | none => rw [h1] at h; cases h
  | some p =>
    obtain ⟨k, r1⟩ := p
    rw [h1] at h; simp only at h
    cases h2 : numB 8 r1 with
    | none => rw [h2] at h; cases h
    | some p =>
      obtain ⟨a, r2⟩ := p
      rw [h2] at h; simp only at h
      cases h3 : txtB r2 with
      | none => rw [h3] at h; cases h
      | some p =>
        obtain ⟨key, r3⟩ := p
        rw [h3] at h; simp only at h
        cases h4 : getV k r3 with
        | none => rw [h4] at h; cases h
        | some p => obtain ⟨v, q⟩ := p; rw [h4] at h; cases h; exact getV_in h4
theorem getEs_in : ∀ (n : Nat) (b : Bs) {l : List Ent} {r : Bs}, getEs n b = some (l, r) → ∀ e ∈ l, e.v.Fits
  | 0, b, l, r, h => by
    rw [getEs] at h; cases h; intro z hz; cases hz
  | n + 1, b, l, r, h => by
    rw [getEs] at h
    cases h1 : getE b with
    | none => rw [h1] at h; cases h
    | some p =>
      obtain ⟨x, r1⟩ := p
      rw [h1] at h
      simp only at h
      cases h3 : getEs n r1 with
      | none => rw [h3] at h; cases h
      | some p =>
        obtain ⟨l', q⟩ := p
        rw [h3] at h
        simp only [Option.some.injEq, Prod.mk.injEq] at h
        obtain ⟨rfl, rfl⟩ := h
        intro z hz
        rcases List.mem_cons.1 hz with rfl | hz
        · exact getE_in h1
        · exact getEs_in n r1 h3 z hz
theorem getAll_in {b : Bs} {id : Nat} {off : Int} {l : List Ent} {r : Bs} (h : getAll b = some ((id, off, l), r)) : id < 18446744073709551616 ∧ (-9223372036854775808 ≤ off ∧ off ≤ 9223372036854775807) ∧ ∀ e ∈ l, e.v.Fits := by
  unfold getAll at h
  cases h1 : numB 8 b with
  | none => rw [h1] at h; cases h
  | some p =>
    obtain ⟨k, r1⟩ := p
    rw [h1] at h; simp only at h
    cases h2 : numB 8 r1 with
    | none => rw [h2] at h; cases h
    | some p =>
      obtain ⟨a, r2⟩ := p
      rw [h2] at h; simp only at h
      cases h3 : numB 4 r2 with
      | none => rw [h3] at h; cases h
      | some p =>
        obtain ⟨n, r3⟩ := p
        rw [h3] at h; simp only at h
        cases h4 : getEs n r3 with
        | none => rw [h4] at h; cases h
        | some p =>
          obtain ⟨l', q⟩ := p
          rw [h4] at h; cases h
          exact ⟨numB_lt h1, wrapS_in (numB_lt h2), getEs_in _ _ h4⟩
theorem decB_in {b : Bs} {id : Nat} {off : Int} {l : List Ent} (h : decB b = .ok (id, off, l)) : id < 18446744073709551616 ∧ ∀ e ∈ l, e.v.Fits := by
  unfold decB at h
  split at h
  · cases h
  · split at h
    · cases h
    · split at h
      · cases h
      · rename_i i o m q hg
        have := getAll_in hg
        cases he : encB i o m with
        | error k => rw [he] at h; cases h
        | ok x =>
          rw [he] at h
          simp only at h
          split at h
          · cases h; exact ⟨this.1, this.2.2⟩
          · cases h

/-- What is cut is refused. -/
theorem cut_refused {id : Nat} {off : Int} {l : List Ent} {b : Bs} {k : Nat} (hi : id < 18446744073709551616) (hf : ∀ e ∈ l, e.v.Fits) (h : encB id off l = .ok b) (hk : k < b.length) : ∀ x, decB (b.take k) ≠ .ok x := by
  rintro ⟨i, o, m⟩ hd
  have h2 := enc_dec hd
  obtain ⟨hi2, hf2⟩ := decB_in hd
  obtain ⟨c1, _, o1, e1⟩ := encB_ok h
  obtain ⟨c2, _, o2, e2⟩ := encB_ok h2
  have hw1 := written_len id off l
  have hw2 := written_len i o m
  have g1 := getAll_app (leB 4 (sumB (writtenB id off l))) c1 hi o1 hf
  have g2 := getAll_app (leB 4 (sumB (writtenB i o m)) ++ b.drop k) c2 hi2 o2 hf2
  rw [← writtenB_drop] at g1 g2
  have e3 : (writtenB id off l).drop 9 ++ leB 4 (sumB (writtenB id off l)) = b.drop 9 := by rw [e1, List.drop_append_of_le_length (by omega)]
  have e4 : (writtenB i o m).drop 9 ++ (leB 4 (sumB (writtenB i o m)) ++ b.drop k) = b.drop 9 := by
    have : b = b.take k ++ b.drop k := (List.take_append_drop k b).symm
    conv => rhs; rw [this, e2]
    rw [List.append_assoc, List.drop_append_of_le_length (by omega)]
  rw [e3] at g1
  rw [e4, g1] at g2
  simp only [Option.some.injEq, Prod.mk.injEq] at g2
  have := congrArg List.length g2.2
  rw [List.length_append, leB_len, leB_len, List.length_drop] at this
  omega

theorem bitS_inj {s t : Nat} (hs : s < 2 ^ 32) (ht : t < 2 ^ 32) (h : bitS s = bitS t) : s = t := by
  have key : ∀ {a b : Nat}, a < 2 ^ 31 → b < 2 ^ 31 → a ^^^ 0xedb88320 ≠ b := fun {a b} ha hb e => by
    have h1 := congrArg (Nat.testBit · 31) e
    simp only [Nat.testBit_xor, Nat.testBit_lt_two_pow ha, Nat.testBit_lt_two_pow hb] at h1
    exact absurd h1 (by decide)
  unfold bitS at h
  by_cases h1 : s % 2 = 1 <;> by_cases h2 : t % 2 = 1
  · rw [if_pos h1, if_pos h2] at h
    have := congrArg (· ^^^ 0xedb88320) h
    simp only [Nat.xor_assoc, Nat.xor_self, Nat.xor_zero] at this
    omega
  · rw [if_pos h1, if_neg h2] at h
    exact absurd h (key (by omega) (by omega))
  · rw [if_neg h1, if_pos h2] at h
    exact absurd h.symm (key (by omega) (by omega))
  · rw [if_neg h1, if_neg h2] at h
    omega
theorem bits8_inj {s t : Nat} (hs : s < 2 ^ 32) (ht : t < 2 ^ 32) (h : bitS (bitS (bitS (bitS (bitS (bitS (bitS (bitS s))))))) = bitS (bitS (bitS (bitS (bitS (bitS (bitS (bitS t)))))))) : s = t := by
  have a1 := bitS_lt hs; have b1 := bitS_lt ht
  have a2 := bitS_lt a1; have b2 := bitS_lt b1
  have a3 := bitS_lt a2; have b3 := bitS_lt b2
  have a4 := bitS_lt a3; have b4 := bitS_lt b3
  have a5 := bitS_lt a4; have b5 := bitS_lt b4
  have a6 := bitS_lt a5; have b6 := bitS_lt b5
  have a7 := bitS_lt a6; have b7 := bitS_lt b6
  exact bitS_inj hs ht (bitS_inj a1 b1 (bitS_inj a2 b2 (bitS_inj a3 b3 (bitS_inj a4 b4 (bitS_inj a5 b5 (bitS_inj a6 b6 (bitS_inj a7 b7 h)))))))
theorem xor_cancel {a b c : Nat} (h : a ^^^ c = b ^^^ c) : a = b := by
  have := congrArg (· ^^^ c) h
  simpa only [Nat.xor_assoc, Nat.xor_self, Nat.xor_zero] using this
theorem byteS_inj {s t : Nat} (c : UInt8) (hs : s < 2 ^ 32) (ht : t < 2 ^ 32) (h : byteS s c = byteS t c) : s = t := by
  have hc := c.toNat_lt
  exact xor_cancel (bits8_inj (Nat.xor_lt_two_pow hs (by omega)) (Nat.xor_lt_two_pow ht (by omega)) h)
theorem byteS_inj2 {s : Nat} {c d : UInt8} (hs : s < 2 ^ 32) (h : byteS s c = byteS s d) : c = d := by
  have hc := c.toNat_lt
  have hd := d.toNat_lt
  have := bits8_inj (Nat.xor_lt_two_pow hs (by omega)) (Nat.xor_lt_two_pow hs (by omega)) h
  rw [Nat.xor_comm s, Nat.xor_comm s] at this
  exact UInt8.toNat_inj.1 (xor_cancel this)
theorem sumS_inj : ∀ (l : Bs) {s t : Nat}, s < 2 ^ 32 → t < 2 ^ 32 → sumS s l = sumS t l → s = t
  | [], _, _, _, _, h => h
  | c :: l, _, _, hs, ht, h => byteS_inj c hs ht (sumS_inj l (byteS_lt hs c) (byteS_lt ht c) h)
theorem sumB_spoilt {x y : Bs} {c d : UInt8} (h : sumB (x ++ c :: y) = sumB (x ++ d :: y)) : c = d := by
  unfold sumB at h
  rw [Nat.xor_comm 0xffffffff, Nat.xor_comm 0xffffffff] at h
  have h := xor_cancel h
  unfold sumS at h
  rw [List.foldl_append, List.foldl_append, List.foldl_cons, List.foldl_cons] at h
  have hs : x.foldl byteS 0xffffffff < 2 ^ 32 := sumS_lt x (by decide)
  exact byteS_inj2 hs (sumS_inj y (byteS_lt hs c) (byteS_lt hs d) h)

/-- Of which one byte is another one is refused. -/
theorem spoilt_refused {id : Nat} {off : Int} {l : List Ent} {b : Bs} {k : Nat} {c d : UInt8} (h : encB id off l = .ok b) (hk : b[k]? = some c) (hd : d ≠ c) : ∀ x, decB (b.set k d) ≠ .ok x := by
  obtain ⟨_, _, _, e⟩ := encB_ok h
  have hkl : k < b.length := (List.getElem?_eq_some_iff.1 hk).1
  have hs := sumB_lt (writtenB id off l)
  have key : leV ((b.set k d).drop (b.length - 4)) ≠ sumB ((b.set k d).take (b.length - 4)) := by
    generalize writtenB id off l = W at *
    have hbl : b.length = W.length + 4 := by rw [e, List.length_append, leB_len]
    have hn : b.length - 4 = W.length := by omega
    rw [hn]
    by_cases hkw : k < W.length
    · have e2 : b.set k d = W.set k d ++ leB 4 (sumB W) := by rw [e, List.set_append_left _ _ hkw]
      rw [e2, show W.length = (W.set k d).length from by simp, List.drop_left, List.take_left, leV_leB 4 _ (by omega)]
      intro hc
      have hcw : W[k]? = some c := by rw [e, List.getElem?_append_left hkw] at hk; exact hk
      have hw : W = W.take k ++ c :: W.drop (k + 1) := by
        obtain ⟨h1, h2⟩ := List.getElem?_eq_some_iff.1 hcw
        rw [← h2, ← List.drop_eq_getElem_cons h1, List.take_append_drop]
      have hw2 : W.set k d = W.take k ++ d :: W.drop (k + 1) := by rw [List.set_eq_take_append_cons_drop, if_pos hkw]
      rw [hw2] at hc
      conv at hc => lhs; rw [hw]
      exact hd (sumB_spoilt hc).symm
    · have e2 : b.set k d = W ++ (leB 4 (sumB W)).set (k - W.length) d := by rw [e, List.set_append_right _ _ (by omega)]
      rw [e2, List.drop_left, List.take_left]
      intro hc
      have h1 : leV ((leB 4 (sumB W)).set (k - W.length) d) = leV (leB 4 (sumB W)) := by rw [hc, leV_leB 4 _ (by omega)]
      have h2 := leV_inj (by simp) h1
      have h3 : (leB 4 (sumB W))[k - W.length]? = some c := by rw [e, List.getElem?_append_right (by omega)] at hk; exact hk
      have h4 := congrArg (·[k - W.length]?) h2
      simp only [h3] at h4
      rw [List.getElem?_set_self (by rw [leB_len]; omega)] at h4
      exact hd (Option.some.inj h4)
  rintro ⟨i, o, m⟩ hx
  unfold decB at hx
  rw [List.length_set] at hx
  split at hx
  · cases hx
  · cases hx

/-- Bits are summed one by one: no matter how many rows the bytes stand in. -/
theorem sumS_app (s : Nat) (a b : Bs) : sumS s (a ++ b) = sumS (sumS s a) b := List.foldl_append
theorem sumB_nil : sumB [] = 0 := by decide
end Go.Proofs.YtfhlhpknobkplaaDoor
namespace Go.Proofs.YtfhlhpknobkplaaDoor

def halfT : List Nat := [0x00000000, 0x1db71064, 0x3b6e20c8, 0x26d930ac, 0x76dc4190, 0x6b6b51f4, 0x4db26158, 0x5005713c, 0xedb88320, 0xf00f9344, 0xd6d6a3e8, 0xcb61b38c, 0x9b64c2b0, 0x86d3d2d4, 0xa00ae278, 0xbdbdf21c]
/-- Half a byte's step. -/
def nibS (x : Nat) : Nat := (x / 16) ^^^ halfT.getD (x % 16) 0

theorem bitS_xor (a p : Nat) (hp : p % 2 = 0) : bitS (a ^^^ p) = (a / 2) ^^^ ((p / 2) ^^^ (if a % 2 = 1 then 0xedb88320 else 0)) := by
  have h1 : (a ^^^ p) % 2 = a % 2 := by
    have := Nat.xor_mod_two_pow (a := a) (b := p) (n := 1)
    simp only [Nat.pow_one] at this
    rw [this, hp, Nat.xor_zero]
  have h2 : (a ^^^ p) / 2 = a / 2 ^^^ p / 2 := Nat.xor_div_two
  unfold bitS
  rw [h1, h2]
  split
  · rw [Nat.xor_assoc]
  · rw [Nat.xor_zero]
theorem nib_is (x : Nat) : nibS x = bitS (bitS (bitS (bitS x))) := by
  have e : ∀ b0 b1 b2 b3 : Nat, x % 2 = b0 → x / 2 % 2 = b1 → x / 4 % 2 = b2 → x / 8 % 2 = b3 → ∀ p1 p2 p3 p4 : Nat,
      (0 / 2) ^^^ (if b0 = 1 then 0xedb88320 else 0) = p1 → p1 % 2 = 0 → (p1 / 2) ^^^ (if b1 = 1 then 0xedb88320 else 0) = p2 → p2 % 2 = 0 → (p2 / 2) ^^^ (if b2 = 1 then 0xedb88320 else 0) = p3 → p3 % 2 = 0 → (p3 / 2) ^^^ (if b3 = 1 then 0xedb88320 else 0) = p4 →
      halfT.getD (b0 + 2 * b1 + 4 * b2 + 8 * b3) 0 = p4 → nibS x = bitS (bitS (bitS (bitS x))) := by
    intro b0 b1 b2 b3 h0 h1 h2 h3 p1 p2 p3 p4 q1 r1 q2 r2 q3 r3 q4 hh
    have s1 : bitS x = (x / 2) ^^^ p1 := by
      have := bitS_xor x 0 rfl
      rw [Nat.xor_zero] at this
      rw [this, h0, q1]
    rw [s1, bitS_xor _ _ r1, h1, q2, Nat.div_div_eq_div_mul, bitS_xor _ _ r2, h2, q3, Nat.div_div_eq_div_mul, bitS_xor _ _ r3, h3, q4, Nat.div_div_eq_div_mul]
    unfold nibS
    have hm : x % 16 = b0 + 2 * b1 + 4 * b2 + 8 * b3 := by omega
    rw [hm, hh]
  have hb : ∀ n, n % 2 = 0 ∨ n % 2 = 1 := fun n => by omega
  rcases hb x with h0 | h0 <;> rcases hb (x / 2) with h1 | h1 <;> rcases hb (x / 4) with h2 | h2 <;> rcases hb (x / 8) with h3 | h3 <;>
    exact e _ _ _ _ h0 h1 h2 h3 _ _ _ _ rfl (by decide) rfl (by decide) rfl (by decide) rfl (by decide)
theorem byteS_nib (s : Nat) (c : UInt8) : byteS s c = nibS (nibS (s ^^^ c.toNat)) := by rw [nib_is, nib_is]; rfl
theorem nibS_lt {x : Nat} (h : x < 2 ^ 32) : nibS x < 2 ^ 32 := by rw [nib_is]; exact bitS_lt (bitS_lt (bitS_lt (bitS_lt h)))
end Go.Proofs.YtfhlhpknobkplaaDoor
namespace Go.Proofs.YtfhlhpknobkplaaDoor
open Go.RowKit
attribute [local go_sem] fold_part fold_some fold_some' partAt_zero

/-- The table of half a byte's steps. -/
def Vs (w : World) : Prop := ∀ i x, halfT[i]? = some x → w.cell? ⟨0, i, none⟩ = some (.int .u32 (x : Nat))
theorem Vs.kept {w w' : World} (h : Vs w) (hk : Kept NoBlock w w') : Vs w' := fun i x hi => by
  have := h i x hi
  rw [World.cell?_of_block (w := w) (hk.block _ (cell_lt this) (fun h => h))]
  exact this
/-- A row of rows of bytes. -/
def MatV (w : World) (v : Value) (ps : List (Value × Bs)) : Prop := RowV w v (ps.map (·.1)) ∧ ∀ p ∈ ps, BytesV w p.1 p.2
theorem MatV.kept {w w' : World} {v : Value} {ps : List (Value × Bs)} (h : MatV w v ps) (hk : Kept NoBlock w w') : MatV w' v ps := ⟨h.1.keptNo hk, fun p hp => (h.2 p hp).keptNo hk⟩

def sumL (s : Nat) (ps : List (Value × Bs)) : Nat := (ps.map (·.2)).foldl sumS s

theorem u32_xor (a b : Nat) (ha : a < 2 ^ 32) (hb : b < 2 ^ 32) : bits .xor .u32 (a : Int) (b : Int) = ((a ^^^ b : Nat) : Int) := by
  have ha' : a % 2 ^ IntKind.u32.bits = a := Nat.mod_eq_of_lt ha
  have hb' : b % 2 ^ IntKind.u32.bits = b := Nat.mod_eq_of_lt hb
  simp only [bits, BitVec.ofInt_natCast, BitVec.toNat_xor, BitVec.toNat_ofNat, ha', hb']
  exact wraps_u32 _ (Int.natCast_nonneg _) (by have := Nat.xor_lt_two_pow ha hb; exact_mod_cast this)
theorem u32_and15 (x : Nat) (hx : x < 2 ^ 32) : bits .and .u32 (x : Int) 15 = ((x % 16 : Nat) : Int) := by
  have := bits_mask .u32 32 (by decide) wraps_u32 4 (by decide) (x : Int) (by omega) (by omega)
  rw [show (15 : Int) = 2 ^ 4 - 1 by decide, this]; omega
theorem halfT_lt {i x : Nat} (h : halfT[i]? = some x) : x < 2 ^ 32 := by
  have hm := List.mem_of_getElem? h
  have : ∀ y ∈ halfT, y < 2 ^ 32 := by decide
  exact this x hm
/-- Half a byte's step, as the walk has it. -/
theorem nib_facts {w : World} (hV : Vs w) (x : Nat) (hx : x < 2 ^ 32) : ∃ i h q : Nat, i < 16 ∧ bits .and .u32 (x : Int) 15 = (i : Int) ∧ w.cell? ⟨0, i, none⟩ = some (.int .u32 (h : Int)) ∧ (x : Int) / 16 = (q : Int) ∧ bits .xor .u32 (q : Int) (h : Int) = ((nibS x : Nat) : Int) := by
  have hi : x % 16 < halfT.length := Nat.mod_lt _ (by decide)
  have hc : halfT[x % 16]? = some halfT[x % 16] := List.getElem?_eq_getElem hi
  refine ⟨x % 16, halfT[x % 16], x / 16, Nat.mod_lt _ (by decide), u32_and15 x hx, hV _ _ hc, by omega, ?_⟩
  rw [u32_xor _ _ (by omega) (halfT_lt hc)]
  unfold nibS
  rw [List.getD_eq_getElem?_getD, hc]
  rfl

set_option maxRecDepth 100000 in
theorem psum (v : Value) (ps : List (Value × Bs)) (w : World) (hV : Vs w) (h : MatV w v ps) (hnl : ps.length ≤ 1000) (hbl : ∀ p ∈ ps, p.2.length ≤ 1000000000) :
    Calls Tryd.prog 11 #[v] w fun e w' => e = .returned (.int .u32 ((0xffffffff ^^^ sumL 0xffffffff ps : Nat) : Int)) ∧ w' = w := by
  obtain ⟨hr, hb⟩ := h
  obtain ⟨ap, cap, rfl, _⟩ := hr.parts
  generalize hM : 0xffffffff ^^^ sumL 0xffffffff ps = M
  have HM := Lib.hid hM
  have HV := Lib.hid hV
  have HC := Lib.hid hr
  have HB := Lib.hid hb
  rw [List.length_map]
  clear hM hV hb hr
  obtain ⟨n, hn⟩ : ∃ n, n = ps.length := ⟨_, rfl⟩
  rw [← hn]
  rw [← hn] at hnl
  have HBS := Lib.hid hbl
  clear hbl
  have HN := Lib.hid hn
  clear hn
  go_enter Tryd.func11, Tryd.ntmps11
  go_wp2_with fail
  go_loopw [3, 10] (fun vx vi wr => ∃ (i x : Nat), vi = .int .i64 i ∧ vx = .int .u32 x ∧ i ≤ n ∧ x < 2 ^ 32 ∧ sumL x (ps.drop i) = sumL 0xffffffff ps ∧ wr = w) (fun _ vi _ => n - (intOf vi).toNat)
  case atStart => exact ⟨0, 0xffffffff, rfl, rfl, Nat.zero_le _, by decide, rfl, rfl⟩
  case round =>
    obtain ⟨i, x, rfl, rfl, hi, hx, hs, rfl⟩ := hrel
    have HS := Lib.hid hs
    clear hs
    by_cases hlt : i < n
    · have hil : i < ps.length := by rw [← HN.out]; exact hlt
      obtain ⟨p, hp⟩ : ∃ p, ps[i]? = some p := ⟨ps[i], List.getElem?_eq_getElem hil⟩
      have hpm := List.mem_of_getElem? hp
      have hbp := HB.out p hpm
      obtain ⟨ad, rfl, hcell⟩ := RowV.cell HC.out (i := i) (v := p.1) (by rw [List.getElem?_map, hp]; rfl)
      have hs := HS.out
      rw [List.drop_eq_getElem_cons hil, show ps[i] = p from by have := hp; rw [List.getElem?_eq_getElem hil] at this; exact Option.some.inj this] at hs
      have hs2 : sumL (sumS x p.2) (ps.drop (i + 1)) = sumL 0xffffffff ps := hs
      obtain ⟨pv, b⟩ := p
      simp only at hbp hcell hs2
      obtain ⟨bp, bc, rfl, _⟩ := hbp.parts
      have HS2 := Lib.hid hs2
      have HBP := Lib.hid hbp
      obtain ⟨bl, hbl⟩ : ∃ m, m = b.length := ⟨_, rfl⟩
      rw [← hbl] at hcell
      have hbm := HBS.out _ hpm
      simp only at hbm
      rw [← hbl] at hbm
      have HBL := Lib.hid hbl
      clear hs hs2 hbp hpm hp hil HS hbl
      go_wp2_with fail
      go_loopw [3, 16] (fun vy vk wk => ∃ (k y : Nat), vk = .int .i64 k ∧ vy = .int .u32 y ∧ k ≤ bl ∧ y < 2 ^ 32 ∧ sumS y (b.drop k) = sumS x b ∧ wk = wr) (fun _ vk _ => bl - (intOf vk).toNat)
      case atStart => exact ⟨0, x, rfl, rfl, Nat.zero_le _, hx, rfl, rfl⟩
      case round =>
        obtain ⟨k, y, rfl, rfl, hk, hy, hsy, rfl⟩ := hrel
        have HSY := Lib.hid hsy
        clear hsy
        by_cases hlk : k < bl
        · have hkb : k < b.length := by rw [← HBL.out]; exact hlk
          obtain ⟨c, hc⟩ : ∃ c, c = b[k] := ⟨_, rfl⟩
          obtain ⟨bd, rfl, hbc⟩ := RowV.cell (show RowV wr _ _ from HBP.out) (i := k) (v := bv c) (by rw [List.getElem?_map, List.getElem?_eq_getElem hkb, ← hc]; rfl)
          unfold bv at hbc
          have hsy := HSY.out
          rw [List.drop_eq_getElem_cons hkb, ← hc] at hsy
          have hsy2 : sumS (byteS y c) (b.drop (k + 1)) = sumS x b := hsy
          have HSY2 := Lib.hid hsy2
          have hcl := c.toNat_lt
          have hx0 : y ^^^ c.toNat < 2 ^ 32 := Nat.xor_lt_two_pow hy (by omega)
          have f0 := u32_xor y c.toNat hy (by omega)
          obtain ⟨i1, h1, q1, g1, g2, g3, g4, g5⟩ := nib_facts HV.out _ hx0
          obtain ⟨i2, h2, q2, k1, k2, k3, k4, k5⟩ := nib_facts HV.out _ (nibS_lt hx0)
          have hy2 := byteS_lt hy c
          rw [byteS_nib] at HSY2 hy2
          generalize nibS (nibS (y ^^^ c.toNat)) = y2 at *
          generalize nibS (y ^^^ c.toNat) = y1 at *
          generalize y ^^^ c.toNat = y0 at *
          have HY2 := Lib.hid hy2
          clear hsy hsy2 hkb hc HSY hx0 hy2 hy
          go_wp2_with fail
          go_roundw
          case rel => exact ⟨k + 1, y2, by go_num, rfl, by omega, HY2.out, HSY2.out, trivial⟩
          case measure => simp [intOf]; omega
        · have hfin : y = sumS x b := by
            have := HSY.out
            rw [List.drop_of_length_le (by have := HBL.out; omega)] at this
            exact this
          go_wp2_with fail
          go_roundw
          case rel => exact ⟨i + 1, y, by go_num, rfl, by omega, hy, by rw [hfin]; exact HS2.out, trivial⟩
          case measure => simp [intOf]; omega
    · have hfin : x = sumL 0xffffffff ps := by
        have := HS.out
        rw [List.drop_of_length_le (by have := HN.out; omega)] at this
        exact this
      have hx2 := u32_xor 0xffffffff x (by decide) hx
      rw [hfin, HM.out] at hx2
      go_wp2_with fail
      go_ret
      refine ⟨?_, rfl⟩
      show Ending.returned (Value.int .u32 (bits .xor .u32 IntKind.u32.max _)) = _
      rw [show IntKind.u32.max = ((0xffffffff : Nat) : Int) from by decide, hx2]

def bitsN : Nat → Nat → Nat
  | 0, s => s
  | n + 1, s => bitsN n (bitS s)

set_option maxRecDepth 100000 in
theorem rsum (v : Value) (ps : List (Value × Bs)) (w : World) (h : MatV w v ps) (hnl : ps.length ≤ 1000) (hbl : ∀ p ∈ ps, p.2.length ≤ 1000000000) :
    Calls Tryd.prog 12 #[v] w fun e w' => e = .returned (.int .u32 ((0xffffffff ^^^ sumL 0xffffffff ps : Nat) : Int)) ∧ w' = w := by
  obtain ⟨hr, hb⟩ := h
  obtain ⟨ap, cap, rfl, _⟩ := hr.parts
  generalize hM : 0xffffffff ^^^ sumL 0xffffffff ps = M
  have HM := Lib.hid hM
  have HC := Lib.hid hr
  have HB := Lib.hid hb
  rw [List.length_map]
  clear hM hb hr
  obtain ⟨n, hn⟩ : ∃ n, n = ps.length := ⟨_, rfl⟩
  rw [← hn]
  rw [← hn] at hnl
  have HBS := Lib.hid hbl
  clear hbl
  have HN := Lib.hid hn
  clear hn
  go_enter Tryd.func12, Tryd.ntmps12
  go_wp2_with fail
  go_loopw [3, 4] (fun vx vi wr => ∃ (i x : Nat), vi = .int .i64 i ∧ vx = .int .u32 x ∧ i ≤ n ∧ x < 2 ^ 32 ∧ sumL x (ps.drop i) = sumL 0xffffffff ps ∧ wr = w) (fun _ vi _ => n - (intOf vi).toNat)
  case atStart => exact ⟨0, 0xffffffff, rfl, rfl, Nat.zero_le _, by decide, rfl, rfl⟩
  case round =>
    obtain ⟨i, x, rfl, rfl, hi, hx, hs, rfl⟩ := hrel
    have HS := Lib.hid hs
    clear hs
    by_cases hlt : i < n
    · have hil : i < ps.length := by rw [← HN.out]; exact hlt
      obtain ⟨p, hp⟩ : ∃ p, ps[i]? = some p := ⟨ps[i], List.getElem?_eq_getElem hil⟩
      have hpm := List.mem_of_getElem? hp
      have hbp := HB.out p hpm
      obtain ⟨ad, rfl, hcell⟩ := RowV.cell HC.out (i := i) (v := p.1) (by rw [List.getElem?_map, hp]; rfl)
      have hs := HS.out
      rw [List.drop_eq_getElem_cons hil, show ps[i] = p from by have := hp; rw [List.getElem?_eq_getElem hil] at this; exact Option.some.inj this] at hs
      have hs2 : sumL (sumS x p.2) (ps.drop (i + 1)) = sumL 0xffffffff ps := hs
      obtain ⟨pv, b⟩ := p
      simp only at hbp hcell hs2
      obtain ⟨bp, bc, rfl, _⟩ := hbp.parts
      have HS2 := Lib.hid hs2
      have HBP := Lib.hid hbp
      obtain ⟨bl, hbl⟩ : ∃ m, m = b.length := ⟨_, rfl⟩
      rw [← hbl] at hcell
      have hbm := HBS.out _ hpm
      simp only at hbm
      rw [← hbl] at hbm
      have HBL := Lib.hid hbl
      clear hs hs2 hbp hpm hp hil HS hbl
      go_wp2_with fail
      go_loopw [3, 5] (fun vy vk wk => ∃ (k y : Nat), vk = .int .i64 k ∧ vy = .int .u32 y ∧ k ≤ bl ∧ y < 2 ^ 32 ∧ sumS y (b.drop k) = sumS x b ∧ wk = wr) (fun _ vk _ => bl - (intOf vk).toNat)
      case atStart => exact ⟨0, x, rfl, rfl, Nat.zero_le _, hx, rfl, rfl⟩
      case round =>
        obtain ⟨k, y, rfl, rfl, hk, hy, hsy, rfl⟩ := hrel
        have HSY := Lib.hid hsy
        clear hsy
        by_cases hlk : k < bl
        · have hkb : k < b.length := by rw [← HBL.out]; exact hlk
          obtain ⟨c, hc⟩ : ∃ c, c = b[k] := ⟨_, rfl⟩
          obtain ⟨bd, rfl, hbc⟩ := RowV.cell (show RowV wr _ _ from HBP.out) (i := k) (v := bv c) (by rw [List.getElem?_map, List.getElem?_eq_getElem hkb, ← hc]; rfl)
          unfold bv at hbc
          have hsy := HSY.out
          rw [List.drop_eq_getElem_cons hkb, ← hc] at hsy
          have hsy2 : sumS (byteS y c) (b.drop (k + 1)) = sumS x b := hsy
          have HSY2 := Lib.hid hsy2
          have hcl := c.toNat_lt
          have hx0 : y ^^^ c.toNat < 2 ^ 32 := Nat.xor_lt_two_pow hy (by omega)
          have f0 := u32_xor y c.toNat hy (by omega)
          have hyb : bitsN 8 (y ^^^ c.toNat) = byteS y c := rfl
          have hy2 := byteS_lt hy c
          generalize byteS y c = y2 at *
          generalize y ^^^ c.toNat = y0 at *
          have HYB := Lib.hid hyb
          have HY2 := Lib.hid hy2
          clear hsy hsy2 hkb hc HSY hyb hy2 hy
          go_wp2_with fail
          clear f0 hbc hcl
          go_loopw [3, 6] (fun vz vj wj => ∃ (j z : Nat), vj = .int .i64 j ∧ vz = .int .u32 z ∧ j ≤ 8 ∧ z < 2 ^ 32 ∧ bitsN (8 - j) z = y2 ∧ wj = wr) (fun _ vj _ => 8 - (intOf vj).toNat)
          case atStart => exact ⟨0, y0, rfl, rfl, Nat.zero_le _, hx0, HYB.out, rfl⟩
          case round =>
            obtain ⟨j, z, rfl, rfl, hj, hz, hbz, rfl⟩ := hrel
            have HBZ := Lib.hid hbz
            clear hbz HYB hx0
            by_cases hlj : j < 8
            · have hst := HBZ.out
              rw [show 8 - j = (8 - (j + 1)) + 1 from by omega, bitsN] at hst
              have hzl := bitS_lt hz
              unfold bitS at hst hzl
              have hq : ((z : Int) / 2) = ((z / 2 : Nat) : Int) := by omega
              have hr2 : ((z : Int) % 2) = ((z % 2 : Nat) : Int) := by omega
              by_cases hpar : z % 2 = 1
              · rw [if_pos hpar] at hst hzl
                have f1 : bits .xor .u32 ((z / 2 : Nat) : Int) 3988292384 = ((z / 2 ^^^ 0xedb88320 : Nat) : Int) := u32_xor (z / 2) 0xedb88320 (by omega) (by decide)
                have hst2 := Lib.hid hst
                have hzl2 := Lib.hid hzl
                have hparI : ((z : Int) % 2) = 1 := by omega
                generalize z / 2 ^^^ 0xedb88320 = z2 at *
                clear hst hzl hpar hr2
                generalize z / 2 = zh at *
                go_wp2_with fail
                go_roundw
                case rel => exact ⟨j + 1, z2, by go_num, rfl, by omega, hzl2.out, hst2.out, trivial⟩
                case measure => simp [intOf]; omega
              · rw [if_neg hpar] at hst hzl
                have hst2 := Lib.hid hst
                have hzl2 := Lib.hid hzl
                have hparI : ((z : Int) % 2) = 0 := by omega
                clear hst hzl hpar hr2
                generalize z / 2 = zh at *
                go_wp2_with fail
                go_roundw
                case rel => exact ⟨j + 1, zh, by go_num, rfl, by omega, hzl2.out, hst2.out, trivial⟩
                case measure => simp [intOf]; omega
            · have hfin : z = y2 := by
                have := HBZ.out
                rw [show 8 - j = 0 from by omega] at this
                exact this
              go_wp2_with fail
              go_roundw
              case rel => exact ⟨k + 1, z, by go_num, rfl, by omega, hz, by rw [hfin]; exact HSY2.out, trivial⟩
              case measure => simp [intOf]; omega
        · have hfin : y = sumS x b := by
            have := HSY.out
            rw [List.drop_of_length_le (by have := HBL.out; omega)] at this
            exact this
          go_wp2_with fail
          go_roundw
          case rel => exact ⟨i + 1, y, by go_num, rfl, by omega, hy, by rw [hfin]; exact HS2.out, trivial⟩
          case measure => simp [intOf]; omega
    · have hfin : x = sumL 0xffffffff ps := by
        have := HS.out
        rw [List.drop_of_length_le (by have := HN.out; omega)] at this
        exact this
      have hx2 := u32_xor 0xffffffff x (by decide) hx
      rw [hfin, HM.out] at hx2
      go_wp2_with fail
      go_ret
      refine ⟨?_, rfl⟩
      show Ending.returned (Value.int .u32 (bits .xor .u32 IntKind.u32.max _)) = _
      rw [show IntKind.u32.max = ((0xffffffff : Nat) : Int) from by decide, hx2]
end Go.Proofs.YtfhlhpknobkplaaDoor
namespace Go.Proofs.YtfhlhpknobkplaaDoor
open Go.RowKit
attribute [local go_sem] fold_part fold_some fold_some' partAt_zero

theorem or_shift (x c i : Nat) (hi : i < 8) (hx : x < 256 ^ i) (hc : c < 256) : bits .or .u64 (x : Int) (IntKind.u64.wrap ((c : Int) * 2 ^ (8 * i))) = ((x + 256 ^ i * c : Nat) : Int) := by
  rcases (by omega : i = 0 ∨ i = 1 ∨ i = 2 ∨ i = 3 ∨ i = 4 ∨ i = 5 ∨ i = 6 ∨ i = 7) with rfl | rfl | rfl | rfl | rfl | rfl | rfl | rfl
  · obtain rfl : x = 0 := by omega
    rw [u64_wrap_id _ (by omega) (by omega)]
    have := (bits_nat .u64 64 (by decide) wraps_u64 0 c (by decide) (by omega)).2
    simpa using this
  · rw [u64_wrap_id _ (by omega) (by omega), u64_or8 _ _ (by omega) (by omega) (by omega) (by omega) (by omega)]; omega
  · rw [u64_wrap_id _ (by omega) (by omega), u64_or16 _ _ (by omega) (by omega) (by omega) (by omega) (by omega)]; omega
  · rw [u64_wrap_id _ (by omega) (by omega), u64_or24 _ _ (by omega) (by omega) (by omega) (by omega) (by omega)]; omega
  · rw [u64_wrap_id _ (by omega) (by omega), u64_or32 _ _ (by omega) (by omega) (by omega) (by omega) (by omega)]; omega
  · rw [u64_wrap_id _ (by omega) (by omega), u64_or40 _ _ (by omega) (by omega) (by omega) (by omega) (by omega)]; omega
  · rw [u64_wrap_id _ (by omega) (by omega), u64_or48 _ _ (by omega) (by omega) (by omega) (by omega) (by omega)]; omega
  · rw [u64_wrap_id _ (by omega) (by omega), u64_or56 _ _ (by omega) (by omega) (by omega) (by omega) (by omega)]; omega

theorem leB_at : ∀ (n x i : Nat), i < n → (leB n x)[i]? = some (UInt8.ofNat (x / 256 ^ i % 256))
  | 0, _, _, h => absurd h (Nat.not_lt_zero _)
  | n + 1, x, 0, _ => by simp [leB]
  | n + 1, x, i + 1, h => by
    rw [leB, List.getElem?_cons_succ, leB_at n (x / 256) i (by omega), Nat.div_div_eq_div_mul, ← Nat.pow_succ']
def fillB (n x i : Nat) : Array Value := (((leB n x).take i ++ List.replicate (n - i) 0).map bv).toArray
theorem fill_set (n x i : Nat) (h : i < n) : (fillB n x i).setIfInBounds i (bv (UInt8.ofNat (x / 256 ^ i % 256))) = fillB n x (i + 1) := by
  unfold fillB
  have hl : ((leB n x).take i).length = i := by rw [List.length_take, leB_len]; omega
  have e : List.replicate (n - i) (0 : UInt8) = 0 :: List.replicate (n - (i + 1)) 0 := by rw [show n - i = (n - (i + 1)) + 1 from by omega, List.replicate_succ]
  have e2 : (leB n x).take (i + 1) = (leB n x).take i ++ [UInt8.ofNat (x / 256 ^ i % 256)] := by
    rw [List.take_add_one, leB_at n x i h]; rfl
  rw [List.setIfInBounds_toArray, ← List.map_set, List.set_append_right _ _ (by omega), hl, Nat.sub_self, e, List.set_cons_zero, e2, List.append_assoc]
  rfl
theorem low_val (x i : Nat) : Value.int .u8 ((x : Int) / 2 ^ (8 * i) % 256) = bv (UInt8.ofNat (x / 256 ^ i % 256)) := by
  have e : ((2 : Int) ^ (8 * i)) = ((256 ^ i : Nat) : Int) := by
    rw [show (256 : Nat) = 2 ^ 8 from rfl, ← Nat.pow_mul]
    push_cast
    rfl
  have e2 : (UInt8.ofNat (x / 256 ^ i % 256)).toNat = x / 256 ^ i % 256 := by simp
  unfold bv
  rw [e, e2]
  congr 1
theorem fill_full (n x : Nat) : fillB n x n = ((leB n x).map bv).toArray := by
  unfold fillB
  rw [List.take_of_length_le (by rw [leB_len]; omega), Nat.sub_self]
  simp
theorem fill_zero (n x : Nat) : fillB n x 0 = madeCells #[.int .u8 0] n := by
  unfold fillB madeCells
  apply Array.ext'
  simp only [List.take_zero, List.nil_append, Nat.sub_zero, List.map_replicate, Array.toList_map, Array.toList_range]
  apply List.ext_getElem
  · simp
  · intro i h1 h2
    simp [bv, Nat.mod_one]

set_option maxRecDepth 100000 in
theorem pworth (v : Value) (b : Bs) (hb : b.length ≤ 8) (w : World) (h : BytesV w v b) :
    Calls Tryd.prog 24 #[v] w fun e w' => e = .returned (.int .u64 (leV b : Nat)) ∧ w' = w := by
  obtain ⟨ap, cap, rfl, _⟩ := h.parts
  have HC := Lib.hid h
  generalize hM : leV b = M
  have HM := Lib.hid hM
  clear hM
  obtain ⟨n, hn⟩ : ∃ n, n = b.length := ⟨_, rfl⟩
  rw [← hn] at hb ⊢
  have HN := Lib.hid hn
  clear h hn
  go_enter Tryd.func24, Tryd.ntmps24
  go_wp2_with fail
  go_loopw [3, 8] (fun vx vi wr => ∃ (i x : Nat), vi = .int .i64 i ∧ vx = .int .u64 x ∧ i ≤ n ∧ x < 256 ^ i ∧ x + 256 ^ i * leV (b.drop i) = M ∧ wr = w) (fun _ vi _ => n - (intOf vi).toNat)
  case atStart => exact ⟨0, 0, rfl, rfl, Nat.zero_le _, by decide, by simpa using HM.out, rfl⟩
  case round =>
    obtain ⟨i, x, rfl, rfl, hi, hx, hs, rfl⟩ := hrel
    have HS := Lib.hid hs
    clear hs
    by_cases hlt : i < n
    · have hil : i < b.length := by rw [← HN.out]; exact hlt
      obtain ⟨c, hc⟩ : ∃ c, c = b[i] := ⟨_, rfl⟩
      obtain ⟨bd, rfl, hbc⟩ := RowV.cell (show RowV wr _ _ from HC.out) (i := i) (v := bv c) (by rw [List.getElem?_map, List.getElem?_eq_getElem hil, ← hc]; rfl)
      unfold bv at hbc
      have hcl := c.toNat_lt
      have hor := or_shift x c.toNat i (by omega) hx hcl
      have hs2 : x + 256 ^ i * c.toNat + 256 ^ (i + 1) * leV (b.drop (i + 1)) = M := by
        have := HS.out
        rw [List.drop_eq_getElem_cons hil, ← hc, leV] at this
        rw [← this, Nat.pow_succ, Nat.mul_add]
        simp only [Nat.mul_assoc, Nat.add_assoc]
      have hx2 : x + 256 ^ i * c.toNat < 256 ^ (i + 1) := by
        rw [Nat.pow_succ]
        have := Nat.mul_le_mul_left (256 ^ i) (show c.toNat ≤ 255 by omega)
        omega
      have HS2 := Lib.hid hs2
      have HX2 := Lib.hid hx2
      generalize x + 256 ^ i * c.toNat = x2 at *
      clear hs2 hx2 HS hc hil
      go_wp2_with fail
      go_roundw
      case rel => exact ⟨i + 1, x2, by go_num, rfl, by omega, HX2.out, HS2.out, trivial⟩
      case measure => simp [intOf]; omega
    · obtain rfl : x = M := by
        have := HS.out
        rw [List.drop_of_length_le (by have := HN.out; omega)] at this
        simpa [leV] using this
      clear HS
      go_wp2_with fail
      go_ret
      exact ⟨rfl, rfl⟩

set_option maxRecDepth 100000 in
theorem plow (x n : Nat) (hx : x < 18446744073709551616) (hn : n = 4 ∨ n = 8) (w : World) :
    Calls Tryd.prog 35 #[.int .u64 x, .int .i64 n] w fun e w' => (∃ v, e = .returned v ∧ BytesV w' v (leB n x)) ∧ Kept NoBlock w w' := by
  have hn8 : n ≤ 8 := by omega
  have hmk := fun W : World => run_make_row' (P := Tryd.prog) 22 5 (.int .u8 0) 1 Tryd.underlying22 (by kernel_rfl) rfl .i64 .i64 n (by omega) (by omega) W
  have HK0 := Lib.hid (Kept.allocd w (.cells (fillB n x 0) 5))
  have HG0 := Lib.hid (heap_alloc_new w (.cells (fillB n x 0) 5))
  rw [← fill_zero n x] at hmk
  go_enter Tryd.func35, Tryd.ntmps35
  go_wp2_with fail
  generalize w.alloc (.cells (fillB n x 0) 5) = W1 at *
  generalize hg : w.heap.size = g at *
  have hgw : w.heap.size ≤ g := by omega
  clear hg
  go_loopw [6, 10] (fun _ vi wr => ∃ i : Nat, vi = .int .i64 i ∧ i ≤ n ∧ Kept NoBlock w wr ∧ wr.heap[g]? = some (.cells (fillB n x i) 5 (0, 0))) (fun _ vi _ => n - (intOf vi).toNat)
  case atStart => exact ⟨0, rfl, Nat.zero_le _, HK0.out, HG0.out⟩
  case round =>
    obtain ⟨i, rfl, hi, hk, hgi⟩ := hrel
    have HK := Lib.hid hk
    have HG := Lib.hid hgi
    clear hk hgi
    by_cases hlt : i < n
    · have hold : ∃ u, wr.cell? ⟨g, i, none⟩ = some u := by
        have hs : i < (fillB n x i).size := by unfold fillB; simp [leB_len]; omega
        exact ⟨_, cellB HG.out (Array.getElem?_eq_getElem hs)⟩
      obtain ⟨u, hu⟩ := hold
      have hz := fun i => frozenB HG.out i
      have hset := heap_setCell_same HG.out i (bv (UInt8.ofNat (x / 256 ^ i % 256)))
      rw [fill_set n x i hlt] at hset
      have hset := hset
      rw [← low_val] at hset
      have HSET := Lib.hid hset
      clear hset
      go_wp2_with fail
      go_roundw
      case rel => exact ⟨i + 1, by go_num, by omega, HK.out.setCell (p := ⟨g, i, none⟩) (fun hlt => absurd hlt (by simp; omega)) _, HSET.out⟩
      case measure => simp [intOf]; omega
    · obtain rfl : i = n := by omega
      go_wp2_with fail
      go_ret
      refine ⟨⟨_, rfl, ?_⟩, HK.out⟩
      have hg := HG.out
      rw [fill_full] at hg
      have hl := leB_len i x
      refine RowV.mk (w := wr) (ap := some ⟨g, 0, none⟩) (n := i) (cap := i) ?_ (Nat.le_refl _) (fun h => by cases h)
      exact ⟨by rw [List.length_map, hl], fun _ => ⟨_, rfl, fun j v hj => by rw [addr_add, Nat.zero_add]; exact cellB hg (by simpa using hj)⟩⟩
end Go.Proofs.YtfhlhpknobkplaaDoor
namespace Go.Proofs.YtfhlhpknobkplaaDoor
open Go.RowKit

theorem str_size {S : ByteArray} {l : Bs} (hS : S = ⟨l.toArray⟩) : S.size = l.length := by subst hS; rfl
theorem str_at {S : ByteArray} {l : Bs} (hS : S = ⟨l.toArray⟩) {i : Nat} {c : UInt8} (h : l[i]? = some c) : ∃ hi : i < S.size, S[i]'hi = c := by
  subst hS
  obtain ⟨hl, e⟩ := List.getElem?_eq_some_iff.1 h
  exact ⟨hl, by rw [← e]; rfl⟩
theorem str_app (x y : Bs) : (⟨x.toArray⟩ : ByteArray) ++ ⟨y.toArray⟩ = ⟨(x ++ y).toArray⟩ := by
  apply ByteArray.ext
  rw [ByteArray.data_append]
  simp
theorem str_inj {a b : Bs} (h : (⟨a.toArray⟩ : ByteArray) = ⟨b.toArray⟩) : a = b := by simpa using h
def strV (l : Bs) : Value := .string ⟨l.toArray⟩
theorem u8_neI {c d : UInt8} (h : c ≠ d) : ¬ ((c.toNat : Int) = (d.toNat : Int)) := fun e => h (UInt8.toNat_inj.1 (by omega))
theorem heap_set_ne {w : World} {o : Option Obj} {p : Addr} {v : Value} {k : Nat} (h : w.heap[k]? = o) (hne : k ≠ p.block) : (w.setCell p v).heap[k]? = o := (heap_setCell_ne p v hne).trans h
theorem Kept.own {w w' : World} (h : Kept NoBlock w w') {g : Nat} (hg : w.heap.size ≤ g) (i : Nat) (v : Value) : Kept NoBlock w (w'.setCell ⟨g, i, none⟩ v) :=
  h.setCell (p := ⟨g, i, none⟩) (fun hlt => absurd hlt (by simp; omega)) v
theorem strInfo : (Tryd.prog.info? 9).map (fun i => (i.zero, i.size, i.bytes)) = some (some (.string ⟨#[]⟩), 1, 16) := by kernel_rfl
theorem byteInfo : (Tryd.prog.info? 5).map (fun i => (i.zero, i.size, i.bytes)) = some (some (.int .u8 0), 1, 1) := by kernel_rfl
theorem conv_of {w : World} {ap : Option Addr} {n cap : Nat} {l : Bs} (h : BytesV w (.slice ap n cap) l) : (convert 22 9 (.slice ap n cap)).run Tryd.prog w = .ok (.string ⟨l.toArray⟩) w :=
  conv_bytes w 22 9 5 Tryd.underlying22 Tryd.underlying5 Tryd.underlying9 cap (RowV.holds h).1
theorem str_part (l : Bs) (i j : Nat) : (⟨l.toArray⟩ : ByteArray).extract i j = ⟨((l.take j).drop i).toArray⟩ := by
  apply ByteArray.ext
  rw [ByteArray.data_extract]
  simp [List.extract_eq_take_drop, List.drop_take]

/-- A row of bytes that the call itself has made, with a mark or none behind it. -/
def OwnT (w : World) (base : Nat) (v : Value) (xs : Bs) : Prop := OwnM w base 5 v xs.length (xs.map bv)
theorem OwnT.bytes {w : World} {base : Nat} {v : Value} {xs : Bs} (h : OwnT w base v xs) : BytesV w v xs := OwnM.row h
theorem OwnT.nil (w : World) (base : Nat) : OwnT w base (.slice none 0 0) [] := OwnM.nil _ _ _
theorem OwnT.kept {w w' : World} {base : Nat} {v : Value} {xs : Bs} (h : OwnT w base v xs) (hk : Kept NoBlock w w') : OwnT w' base v xs := OwnM.kept h hk
theorem OwnT.fresh (w : World) (xs : Bs) (h : xs.length ≤ maxLen) : OwnT (w.alloc (.cells (xs.map bv).toArray 5)) w.heap.size (.slice (some ⟨w.heap.size, 0, none⟩) xs.length xs.length) xs :=
  ⟨by simp, .inr ⟨_, _, _, _, rfl, Nat.le_refl _, heap_alloc_new w _, .inl (Nat.zero_le _), Nat.le_refl _, h, by simp, by simp [List.take_of_length_le]⟩⟩

theorem wpList_appT {w : World} {ops : Array Oper} {rest : List Oper} {o : Oper} {a : Act} {Q : Exit → Act → World → Prop} (hgd : o.guard = none) (sl x : Operand)
    (ho : o.op = .call { callee := .builtin .append, args := #[sl, x], argTypes := #[22, 9] })
    (base : Nat) (v : Value) (xs : Bs) (hs : a.eval sl = v) (hown : OwnT w base v xs) (p : Bs) (S : ByteArray) (hS : S = ⟨p.toArray⟩) (hx : a.eval x = .string S) (hlen : xs.length + p.length ≤ 1000000000) (hbase : base ≤ w.heap.size)
    (h : ∀ v' w', OwnT w' base v' (xs ++ p) → w.grownBy w' v.ownBlock → wpList Tryd.prog ops Q rest (a.put o.dst v') w') : wpList Tryd.prog ops Q (o :: rest) a w := by
  obtain ⟨i0, hi, hz0, hz1, hz2⟩ := info_parts byteInfo
  have hsz : S.size = p.length := by subst hS; rfl
  refine wpList_append_strM (P := Tryd.prog) w hgd sl x 22 9 ho base 5 i0 Tryd.underlying22 Tryd.underlying9 hi hz0 hz1 hz2 v xs.length (xs.map bv) hs hown S hx (by unfold maxLen; omega) (by omega) hbase ?_
  intro v' w' hr hg
  refine h v' w' ?_ hg
  rw [strCells_bv, hS] at hr
  unfold OwnT
  rw [List.length_append, List.map_append]
  exact hr

theorem wpList_appL {w : World} {ops : Array Oper} {rest : List Oper} {o : Oper} {a : Act} {Q : Exit → Act → World → Prop} (hgd : o.guard = none) (sl x : Operand)
    (ho : o.op = .call { callee := .builtin .append, args := #[sl, x], argTypes := #[22, 22] })
    (base : Nat) (v : Value) (xs : Bs) (hs : a.eval sl = v) (hown : OwnT w base v xs) (u : Value) (p : Bs) (hx : a.eval x = u) (hb : BytesV w u p) (hlen : xs.length + p.length ≤ 1000000000) (hbase : base ≤ w.heap.size)
    (h : ∀ v' w', OwnT w' base v' (xs ++ p) → w.grownBy w' v.ownBlock → wpList Tryd.prog ops Q rest (a.put o.dst v') w') : wpList Tryd.prog ops Q (o :: rest) a w := by
  obtain ⟨i0, hi, hz0, hz1, hz2⟩ := info_parts byteInfo
  obtain ⟨ap, cap, rfl, _, _⟩ := hb.parts
  obtain ⟨hH, hl, hc, hn⟩ := RowV.holds hb
  refine wpList_append_M (P := Tryd.prog) w hgd sl x 22 ho base 5 i0 _ 1 Tryd.underlying22 hi hz0 hz1 hz2 rfl v xs.length (xs.map bv) hs hown ap p.length cap (p.map bv) hx hH hn (bv_one p) (by unfold maxLen; omega) (by omega) hbase ?_
  intro v' w' hr hg
  refine h v' w' ?_ hg
  unfold OwnT
  rw [List.length_append, List.map_append]
  exact hr

theorem bytes_fresh (w : World) (xs : Bs) : BytesV (w.alloc (.cells (xs.map bv).toArray 5)) (.slice (some ⟨w.heap.size, 0, none⟩) xs.length xs.length) xs := by
  have := holds_fresh w 5 (xs.map bv)
  rw [List.length_map] at this
  exact RowV.mk this (Nat.le_refl _) (fun h => by cases h)

/-- A row of bytes that the call itself has made, with no mark at all. -/
def OwnZ (w : World) (base : Nat) (v : Value) (xs : Bs) : Prop := w.ownsRow base 5 1 v xs.length (xs.map bv)
theorem OwnZ.t {w : World} {base : Nat} {v : Value} {xs : Bs} (h : OwnZ w base v xs) : OwnT w base v xs := OwnM.of h
theorem OwnZ.bytes {w : World} {base : Nat} {v : Value} {xs : Bs} (h : OwnZ w base v xs) : BytesV w v xs := h.t.bytes
theorem OwnZ.nil (w : World) (base : Nat) : OwnZ w base (.slice none 0 0) [] := World.ownsRow_nil _ _ _ _
theorem OwnZ.keptS {S : Nat → Prop} {w w' : World} {base : Nat} {v : Value} {xs : Bs} (h : OwnZ w base v xs) (hk : Kept S w w') (hS : ∀ k, base ≤ k → k < w.heap.size → ¬ S k) : OwnZ w' base v xs := by
  refine ⟨h.1, ?_⟩
  rcases h.2 with hn | ⟨g, cap, cur, rfl, hb, hg, rest⟩
  · exact .inl hn
  · exact .inr ⟨g, cap, cur, rfl, hb, hk.heap hg (hS g hb (lt_of_heap hg)), rest⟩
theorem OwnZ.kept {w w' : World} {base : Nat} {v : Value} {xs : Bs} (h : OwnZ w base v xs) (hk : Kept NoBlock w w') : OwnZ w' base v xs := h.keptS hk (fun _ _ _ h => h)
theorem OwnZ.lower {w : World} {base base' : Nat} {v : Value} {xs : Bs} (h : OwnZ w base v xs) (hb : base' ≤ base) : OwnZ w base' v xs := ownsRow_lower h hb

theorem wpList_appZ {w : World} {ops : Array Oper} {rest : List Oper} {o : Oper} {a : Act} {Q : Exit → Act → World → Prop} (hgd : o.guard = none) (sl x : Operand)
    (ho : o.op = .call { callee := .builtin .append, args := #[sl, x], argTypes := #[22, 9] })
    (base : Nat) (v : Value) (xs : Bs) (hs : a.eval sl = v) (hown : OwnZ w base v xs) (p : Bs) (S : ByteArray) (hS : S = ⟨p.toArray⟩) (hx : a.eval x = .string S) (hlen : xs.length + p.length ≤ 1000000000) (hbase : base ≤ w.heap.size)
    (h : ∀ v' w', OwnZ w' base v' (xs ++ p) → w.grownBy w' v.ownBlock → wpList Tryd.prog ops Q rest (a.put o.dst v') w') : wpList Tryd.prog ops Q (o :: rest) a w := by
  obtain ⟨i0, hi, hz0, hz1, hz2⟩ := info_parts byteInfo
  have hsz : S.size = p.length := by subst hS; rfl
  obtain ⟨v', w', hr, h2, h3, _⟩ := Lib.run_append_own_string (P := Tryd.prog) w base 22 9 o.type 5 i0 Tryd.underlying22 Tryd.underlying9 hi hz0 hz1 hz2 v xs.length (xs.map bv) hown S (by unfold maxLen; omega) (by omega) hbase
  refine wpList_plain hgd fun K hK => ?_
  unfold Oper.wp execOp
  simp only [ho, resolve, invoke, builtin, Sem.run_bind, Sem.run_pure, Result.andThen_ok, List.map_toArray, List.map_cons, List.map_nil, hs, hx, hr]
  refine hK _ _ (h v' w' ?_ h3)
  rw [strCells_bv, hS] at h2
  unfold OwnZ
  rw [List.length_append, List.map_append]
  exact h2
theorem wpList_appZL {w : World} {ops : Array Oper} {rest : List Oper} {o : Oper} {a : Act} {Q : Exit → Act → World → Prop} (hgd : o.guard = none) (sl x : Operand)
    (ho : o.op = .call { callee := .builtin .append, args := #[sl, x], argTypes := #[22, 22] })
    (base : Nat) (v : Value) (xs : Bs) (hs : a.eval sl = v) (hown : OwnZ w base v xs) (u : Value) (p : Bs) (hx : a.eval x = u) (hb : BytesV w u p) (hlen : xs.length + p.length ≤ 1000000000) (hbase : base ≤ w.heap.size)
    (h : ∀ v' w', OwnZ w' base v' (xs ++ p) → w.grownBy w' v.ownBlock → wpList Tryd.prog ops Q rest (a.put o.dst v') w') : wpList Tryd.prog ops Q (o :: rest) a w := by
  obtain ⟨i0, hi, hz0, hz1, hz2⟩ := info_parts byteInfo
  obtain ⟨ap, cap, rfl, _, _⟩ := hb.parts
  obtain ⟨hH, hl, hc, hn⟩ := RowV.holds hb
  refine wpList_append_holds (P := Tryd.prog) hgd sl x 22 ho base 5 i0 _ 1 Tryd.underlying22 hi hz0 hz1 hz2 rfl v xs.length (xs.map bv) hs hown ap p.length cap (p.map bv) hx hH hn (bv_one p) (by unfold maxLen; omega) (by omega) hbase ?_
  intro v' w' hr hg
  refine h v' w' ?_ hg
  unfold OwnZ
  rw [List.length_append, List.map_append]
  exact hr
/-- A byte of such a row, stored. -/
theorem OwnZ.set {w : World} {base : Nat} {ap : Option Addr} {n cap : Nat} {xs : Bs} (h : OwnZ w base (.slice ap n cap) xs) {k : Nat} (hk : k < n) (c : UInt8) :
    ∃ ad, ap = some ad ∧ base ≤ ad.block ∧ w.frozen? (ad.add k) = false ∧ BytesV (w.setCell (ad.add k) (bv c)) (.slice ap n cap) (xs.set k c) ∧ Kept (fun i => i = ad.block) w (w.setCell (ad.add k) (bv c)) := by
  obtain ⟨hl, hr⟩ := h
  rcases hr with ⟨e, h0⟩ | ⟨g, cap', cur, e, hb, hg, hn, hcm, hcs, htk⟩
  · cases e; omega
  · cases e
    refine ⟨⟨g, 0, none⟩, rfl, hb, ?_, ?_, ?_⟩
    · rw [addr_add, Nat.zero_add]; exact frozenB hg k
    · rw [addr_add, Nat.zero_add]
      have hset := heap_setCell_same hg k (bv c)
      refine RowV.mk (w := w.setCell ⟨g, k, none⟩ (bv c)) (ap := some ⟨g, 0, none⟩) (n := xs.length) (cap := cap) ⟨by simp, fun _ => ⟨_, rfl, fun j v hj => ?_⟩⟩ hn (fun h => by cases h)
      rw [addr_add, Nat.zero_add]
      refine cellB hset ?_
      have hjl : j < xs.length := by have := (List.getElem?_eq_some_iff.1 hj).1; simpa using this
      rw [List.map_set, List.getElem?_set] at hj
      rw [Array.getElem?_setIfInBounds]
      by_cases hkj : k = j
      · subst hkj
        simp only [if_true] at hj ⊢
        rw [if_pos (by rw [hcs]; omega)]
        rw [if_pos (by simpa using hjl)] at hj
        exact hj
      · rw [if_neg hkj] at hj ⊢
        have : (cur.toList.take (xs.length * 1))[j]? = some v := by rw [htk]; exact hj
        rw [List.getElem?_take, if_pos (by omega)] at this
        simpa using this
    · rw [addr_add, Nat.zero_add]
      exact Kept.setCell (S := fun i => i = g) (p := ⟨g, k, none⟩) (Kept.refl _ w) (fun _ => rfl) _
end Go.Proofs.YtfhlhpknobkplaaDoor
namespace Go.Proofs.YtfhlhpknobkplaaDoor
open Go.RowKit
attribute [local go_sem] fold_part fold_some fold_some' partAt_zero

/-- A block of bytes. -/
def U8 (w : World) (k : Nat) : Prop := ∃ cs fz, w.heap[k]? = some (.cells cs 5 fz)
/-- What a writer at g may turn: itself, and blocks of bytes. -/
def WK (g : Nat) (w w' : World) : Prop := Kept (fun k => k = g ∨ U8 w k) w w'
theorem Kept.wk {w w' : World} (h : Kept NoBlock w w') (g : Nat) : WK g w w' := ⟨h.os, h.tape, h.output, h.size, fun k hk _ => h.block k hk (fun h => h)⟩
theorem WK.trans {g : Nat} {w w' w'' : World} (h : WK g w w') (h' : WK g w' w'') : WK g w w'' := by
  refine ⟨h'.os.trans h.os, h'.tape.trans h.tape, h'.output.trans h.output, Nat.le_trans h.size h'.size, fun k hk hn => ?_⟩
  have e := h.block k hk hn
  rw [h'.block k (Nat.lt_of_lt_of_le hk h.size) (fun hu => hn (by
    rcases hu with rfl | ⟨cs, fz, hu⟩
    · exact .inl rfl
    · exact .inr ⟨cs, fz, by rw [← e]; exact hu⟩)), e]
theorem WK.heap {g : Nat} {w w' : World} (h : WK g w w') {k : Nat} {cs : Array Value} {T : TypeId} {fz : Nat × Nat} (hk : w.heap[k]? = some (.cells cs T fz)) (hg : ¬ (k = g)) (hT : ¬ (T = 5)) : w'.heap[k]? = some (.cells cs T fz) :=
  Kept.heap h hk (fun hu => by
    rcases hu with h | ⟨cs', fz', h⟩
    · exact hg h
    · rw [hk] at h; cases h; exact hT rfl)

/-- A writer that was made at W0, and has written x. -/
def Wr (W0 w : World) (x : Bs) : Prop := Kept NoBlock W0 w ∧ ∃ v, w.heap[W0.heap.size]? = some (.cells #[v, .int .i64 x.length] 77 (0, 0)) ∧ OwnZ w (W0.heap.size + 1) v x
theorem Wr.kept {W0 w w' : World} {x : Bs} (h : Wr W0 w x) (hk : Kept NoBlock w w') : Wr W0 w' x := by
  obtain ⟨h1, v, h2, h3⟩ := h
  exact ⟨h1.trans hk, v, hk.heap h2 (fun h => h), h3.kept hk⟩

set_option maxRecDepth 100000 in
theorem praw (W0 w : World) (x s : Bs) (h : Wr W0 w x) (hl : x.length + s.length ≤ 67108864) :
    Calls Tryd.prog 50 #[.pointer (some ⟨W0.heap.size, 0, none⟩), .string ⟨s.toArray⟩] w fun e w' => (∃ u, e = .returned u) ∧ Wr W0 w' (x ++ s) ∧ WK W0.heap.size w w' := by
  obtain ⟨hk, v, hg, ho⟩ := h
  have htyp := OwnM.typed ho.t
  obtain ⟨ap, cap, rfl, _⟩ := OwnM.form ho.t
  obtain ⟨S, hS⟩ : ∃ S : ByteArray, S = ⟨s.toArray⟩ := ⟨_, rfl⟩
  have hSz := str_size hS
  rw [← hS]
  obtain ⟨n, hn⟩ : ∃ n, n = x.length := ⟨_, rfl⟩
  obtain ⟨g, hgd⟩ : ∃ g, g = W0.heap.size := ⟨_, rfl⟩
  rw [← hn, ← hgd] at hg
  rw [← hgd] at ho
  rw [← hn] at hl
  rw [← hgd]
  have hgl := lt_of_heap hg
  obtain ⟨c0, c1⟩ : w.cell? ⟨g, 0, none⟩ = some (.slice ap n cap) ∧ w.cell? ⟨g, 1, none⟩ = some (.int .i64 n) := ⟨cellB hg (by rw [hn]; rfl), cellB hg rfl⟩
  have hz := fun i => frozenB hg i
  have hg1 := heap_setCell_same hg 1 (.int .i64 ((n : Int) + (S.size : Int)))
  have hk1 := hk.setCell (p := ⟨g, 1, none⟩) (fun hlt => absurd hlt (by simp; omega)) (.int .i64 ((n : Int) + (S.size : Int)))
  have ho1 : OwnZ (w.setCell ⟨g, 1, none⟩ (.int .i64 ((n : Int) + (S.size : Int)))) (g + 1) (.slice ap x.length cap) x := OwnZ.keptS (S := fun k => k = g) ho (Kept.setCell (S := fun k => k = g) (p := ⟨g, 1, none⟩) (Kept.refl _ w) (fun _ => rfl) _) (fun k h1 h2 => by omega)
  have hle : (n : Int) + (S.size : Int) ≤ 67108864 := by omega
  have HG := Lib.hid hg
  have HG1 := Lib.hid hg1
  have HK := Lib.hid hk
  have HK1 := Lib.hid hk1
  have HO1 := Lib.hid ho1
  have HS := Lib.hid hS
  have HT := Lib.hid htyp
  have HN := Lib.hid hn
  have HGD := Lib.hid hgd
  have HL := Lib.hid hl
  rw [← hn] at HO1
  clear hg hg1 hk hk1 ho ho1 hS htyp hn hgd hl hSz
  go_enter Tryd.func50, Tryd.ntmps50
  go_wp2_with (at_builtin; refine wpList_appZ rfl _ _ (by rfl) (g + 1) _ x (by rfl) HO1.out s S HS.out (by rfl) (by have := HN.out; have := HL.out; omega) (by simp; omega) ?_; intro v' w2 hown hgr; refine Hid.out ?_)
  have hlt := OwnM.lt HO1.out.t
  have hg2 : w2.heap[g]? = some (.cells #[.slice ap n cap, .int .i64 ((n : Int) + (S.size : Int))] 77 (0, 0)) := by
    rw [hgr.block g (by simp; omega) (fun e => by have := hlt _ e.symm; omega)]
    exact HG1.out
  have d0 := cellB hg2 (i := 0) rfl
  have hz2 := fun i => frozenB hg2 i
  obtain ⟨ap', cap', rfl, _⟩ := OwnM.form hown.t
  have hnl : (x ++ s).length = n + S.size := by rw [List.length_append, HN.out, str_size HS.out]
  rw [hnl] at hown ⊢
  have hgl2 : g < w2.heap.size := lt_of_heap hg2
  have hset := heap_setCell_same hg2 0 (.slice ap' (n + S.size) cap')
  have hk2 : Kept NoBlock W0 w2 := HK1.out.grown hgr (fun k e hlt' => by have := hlt k e; have := HGD.out; omega)
  have hk3 := hk2.setCell (p := ⟨g, 0, none⟩) (fun hlt' => absurd hlt' (by have := HGD.out; simp; omega)) (.slice ap' (n + S.size) cap')
  have hwk : WK g w (w2.setCell ⟨g, 0, none⟩ (.slice ap' (n + S.size) cap')) := by
    refine Kept.setCell (S := fun k => k = g ∨ U8 w k) (p := ⟨g, 0, none⟩) ?_ (fun _ => .inl rfl) _
    refine Kept.grown (S := fun k => k = g ∨ U8 w k) (Kept.setCell (S := fun k => k = g ∨ U8 w k) (p := ⟨g, 1, none⟩) (Kept.refl _ w) (fun _ => .inl rfl) _) hgr (fun k e _ => .inr ?_)
    cases ap with
    | none => simp [Value.ownBlock] at e
    | some a =>
      refine HT.out k ?_
      simp only [Value.ownBlock] at e
      exact e
  have HW := Lib.hid (show Wr W0 (w2.setCell ⟨g, 0, none⟩ (.slice ap' (n + S.size) cap')) (x ++ s) from by
    unfold Wr
    rw [← HGD.out]
    refine ⟨hk3, _, ?_, OwnZ.keptS (S := fun k => k = g) hown (Kept.setCell (S := fun k => k = g) (p := ⟨g, 0, none⟩) (Kept.refl _ w2) (fun _ => rfl) _) (fun k h1 h2 => by omega)⟩
    rw [hset, hnl]
    simp)
  have HWK := Lib.hid hwk
  clear hown hgr hlt hg2 hnl hset hk2 hk3 hwk HG HG1 HK HK1 HO1 HT c0 c1 hz
  refine Lib.hid ?_
  go_wp2_with fail
  refine bodyPost_end (results_none rfl _ _ _) rfl ⟨⟨_, rfl⟩, HW.out, HWK.out⟩

/-- What a call of the writer leaves. -/
def WEnd (W0 w : World) (x : Bs) (e : Ending) (w' : World) : Prop := (∃ u, e = .returned u) ∧ Wr W0 w' x ∧ WK W0.heap.size w w'

theorem peight (W0 w : World) (x : Bs) (n : Nat) (hn : n < 18446744073709551616) (h : Wr W0 w x) (hl : x.length + 8 ≤ 67108864) :
    Calls Tryd.prog 51 #[.pointer (some ⟨W0.heap.size, 0, none⟩), .int .u64 n] w (WEnd W0 w (x ++ leB 8 n)) := by
  have hlo := plow n 8 hn (.inr rfl) w
  have hra := fun w' (hk : Kept NoBlock w w') => praw W0 w' x (leB 8 n) (h.kept hk) (by rw [leB_len]; exact hl)
  have HLO := Lib.hid hlo
  have HRA := Lib.hid hra
  clear hlo hra h
  go_enter Tryd.func51, Tryd.ntmps51
  go_wp2_with fail
  refine HLO.out.mono ?_
  rintro e w2 ⟨⟨v, rfl, hb⟩, hk⟩
  obtain ⟨ap, cap, rfl, _⟩ := hb.parts
  have hcv := conv_of hb
  have HK := Lib.hid hk
  clear hb hk
  go_wp2_with fail
  refine (HRA.out w2 HK.out).mono ?_
  rintro e w3 ⟨⟨u, rfl⟩, hw, hwk⟩
  have HW := Lib.hid hw
  have HWK := Lib.hid ((HK.out.wk _).trans hwk)
  clear hw hwk
  go_wp2_with fail
  refine bodyPost_end (results_none rfl _ _ _) rfl ⟨⟨_, rfl⟩, HW.out, HWK.out⟩

theorem pfour (W0 w : World) (x : Bs) (n : Nat) (hn : n ≤ 9223372036854775807) (h : Wr W0 w x) (hl : x.length + 4 ≤ 67108864) :
    Calls Tryd.prog 52 #[.pointer (some ⟨W0.heap.size, 0, none⟩), .int .i64 n] w (WEnd W0 w (x ++ leB 4 n)) := by
  have hlo := plow n 4 (by omega) (.inl rfl) w
  have hra := fun w' (hk : Kept NoBlock w w') => praw W0 w' x (leB 4 n) (h.kept hk) (by rw [leB_len]; exact hl)
  have HLO := Lib.hid hlo
  have HRA := Lib.hid hra
  clear hlo hra h
  go_enter Tryd.func52, Tryd.ntmps52
  go_wp2_with fail
  refine HLO.out.mono ?_
  rintro e w2 ⟨⟨v, rfl, hb⟩, hk⟩
  obtain ⟨ap, cap, rfl, _⟩ := hb.parts
  have hcv := conv_of hb
  have HK := Lib.hid hk
  clear hb hk
  go_wp2_with fail
  refine (HRA.out w2 HK.out).mono ?_
  rintro e w3 ⟨⟨u, rfl⟩, hw, hwk⟩
  have HW := Lib.hid hw
  have HWK := Lib.hid ((HK.out.wk _).trans hwk)
  clear hw hwk
  go_wp2_with fail
  refine bodyPost_end (results_none rfl _ _ _) rfl ⟨⟨_, rfl⟩, HW.out, HWK.out⟩

theorem pwtext (W0 w : World) (x s : Bs) (h : Wr W0 w x) (hl : x.length + 4 + s.length ≤ 67108864) :
    Calls Tryd.prog 60 #[.pointer (some ⟨W0.heap.size, 0, none⟩), .string ⟨s.toArray⟩] w (WEnd W0 w (x ++ textB s)) := by
  have hfo := pfour W0 w x s.length (by omega) h (by omega)
  have hra := fun w' (h : Wr W0 w' (x ++ leB 4 s.length)) => praw W0 w' _ s h (by rw [List.length_append, leB_len]; exact hl)
  obtain ⟨S, hS⟩ : ∃ S : ByteArray, S = ⟨s.toArray⟩ := ⟨_, rfl⟩
  have hSz := str_size hS
  rw [← hS] at hra ⊢
  rw [← hSz] at hfo
  have HFO := Lib.hid hfo
  have HRA := Lib.hid hra
  have HSZ := Lib.hid hSz
  clear hfo hra h hS hSz
  go_enter Tryd.func60, Tryd.ntmps60
  go_wp2_with fail
  refine HFO.out.mono ?_
  rintro e w2 ⟨⟨u, rfl⟩, hw, hwk⟩
  have HW := Lib.hid hw
  have HWK := Lib.hid hwk
  clear hw hwk
  go_wp2_with fail
  refine (HRA.out w2 (by rw [← HSZ.out]; exact HW.out)).mono ?_
  rintro e w3 ⟨⟨u, rfl⟩, hw, hwk⟩
  have HW3 := Lib.hid hw
  have HWK3 := Lib.hid (HWK.out.trans hwk)
  clear hw hwk
  go_wp2_with fail
  refine bodyPost_end (results_none rfl _ _ _) rfl ⟨⟨_, rfl⟩, ?_, HWK3.out⟩
  have := HW3.out
  rw [List.append_assoc] at this
  exact this
end Go.Proofs.YtfhlhpknobkplaaDoor
namespace Go.Proofs.YtfhlhpknobkplaaDoor
open Go.RowKit

section
variable {α : Type} {k : Nat} {f : α → List Value}

theorem flat_len (hf : ∀ x, (f x).length = k) : ∀ xs : List α, (xs.flatMap f).length = k * xs.length
  | [] => rfl
  | x :: xs => by rw [List.flatMap_cons, List.length_append, flat_len hf xs, hf, List.length_cons, Nat.mul_add]; omega
theorem flat_at (hf : ∀ x, (f x).length = k) : ∀ (xs : List α) (i j : Nat) (x : α), xs[i]? = some x → j < k → (xs.flatMap f)[i * k + j]? = (f x)[j]?
  | [], i, j, x, h, _ => by simp at h
  | y :: xs, 0, j, x, h, hj => by
    obtain rfl : y = x := by simpa using h
    rw [List.flatMap_cons, List.getElem?_append_left (by rw [hf]; omega)]
    simp
  | y :: xs, i + 1, j, x, h, hj => by
    rw [List.flatMap_cons, List.getElem?_append_right (by rw [hf, Nat.add_mul]; omega)]
    have e : (i + 1) * k + j - (f y).length = i * k + j := by rw [hf, Nat.add_mul]; omega
    rw [e]
    exact flat_at hf xs i j x (by simpa using h) hj

/-- A slice of structs of k cells each. -/
def RowK (k : Nat) (f : α → List Value) (w : World) (v : Value) (xs : List α) : Prop := ∃ ap cap, v = .slice ap xs.length cap ∧ Holds w ap (k * xs.length) (xs.flatMap f) ∧ xs.length ≤ cap ∧ (ap = none → cap = 0)
theorem RowK.kept {w w' : World} {v : Value} {xs : List α} (h : RowK k f w v xs) (hk : Kept NoBlock w w') : RowK k f w' v xs := by
  obtain ⟨ap, cap, rfl, h1, h2, h3⟩ := h
  exact ⟨ap, cap, rfl, h1.keptS hk (fun _ _ h => h), h2, h3⟩
theorem RowK.nil (w : World) : RowK k f w (.slice none 0 0) [] := ⟨none, 0, rfl, ⟨rfl, fun h => absurd h (by simp)⟩, Nat.le_refl _, fun _ => rfl⟩
theorem RowK.parts {w : World} {v : Value} {xs : List α} (h : RowK k f w v xs) : ∃ ap cap, v = .slice ap xs.length cap ∧ xs.length ≤ cap ∧ (ap = none → cap = 0) := by
  obtain ⟨ap, cap, rfl, _, h2, h3⟩ := h
  exact ⟨ap, cap, rfl, h2, h3⟩

theorem add_off (a : Addr) (i j : Nat) (hj : j ≠ 0) : a.add (i + j) = ⟨(a.add i).block, (a.add i).off + j, none⟩ := by
  rw [← addr_add_add]
  generalize a.add i = b
  simp [Addr.add, hj]

theorem RowK.at (hf : ∀ x, (f x).length = k) {w : World} {ap : Option Addr} {n cap : Nat} {xs : List α} (h : RowK k f w (.slice ap n cap) xs) {i : Nat} {x : α} (hi : xs[i]? = some x) :
    ∃ ad, ap = some ad ∧ (∀ v, 0 < k → (f x)[0]? = some v → w.cell? (ad.add (i * k)) = some v) ∧ ∀ j v, j ≠ 0 → j < k → (f x)[j]? = some v → w.cell? ⟨(ad.add (i * k)).block, (ad.add (i * k)).off + j, none⟩ = some v := by
  obtain ⟨ap', cap', e, h1, h2, h3⟩ := h
  cases e
  have hl := (List.getElem?_eq_some_iff.1 hi).1
  by_cases hk : 0 < k
  · obtain ⟨ad, rfl, hc⟩ := h1.2 (Nat.mul_pos hk (by omega))
    refine ⟨ad, rfl, fun v _ hv => ?_, fun j v hj hjk hv => ?_⟩
    · have := flat_at hf xs i 0 x hi hk
      rw [hv] at this
      exact hc _ _ this
    · rw [← add_off ad (i * k) j hj]
      exact hc _ _ ((flat_at hf xs i j x hi hjk).trans hv)
  · cases ap with
    | none => have := h3 rfl; omega
    | some ad => exact ⟨ad, rfl, fun _ h => absurd h hk, fun j _ _ hjk => by omega⟩
end

def zCells (z : Bs × Int) : List Value := [strV z.1, .int .i64 z.2]
def hCells (f : Bs × Bs) : List Value := [strV f.1, strV f.2]
/-- An entry, and the slices of its three rows. -/
structure EntM where
  e : Ent
  vL : Value
  vZ : Value
  vH : Value
def eCells (m : EntM) : List Value := [strV m.e.key, .int .i64 m.e.v.kind, strV m.e.v.s, m.vL, m.vZ, m.vH, .int .i64 m.e.till]
def SubsV (w : World) (m : EntM) : Prop := RowV w m.vL (m.e.v.L.map strV) ∧ RowK 2 zCells w m.vZ m.e.v.Z ∧ RowK 2 hCells w m.vH m.e.v.H
theorem SubsV.kept {w w' : World} {m : EntM} (h : SubsV w m) (hk : Kept NoBlock w w') : SubsV w' m := ⟨h.1.keptNo hk, h.2.1.kept hk, h.2.2.kept hk⟩
/-- A slice of entries. -/
def EntsV (w : World) (v : Value) (ms : List EntM) : Prop := RowK 7 eCells w v ms ∧ ∀ m ∈ ms, SubsV w m
theorem EntsV.kept {w w' : World} {v : Value} {ms : List EntM} (h : EntsV w v ms) (hk : Kept NoBlock w w') : EntsV w' v ms := ⟨h.1.kept hk, fun m hm => (h.2 m hm).kept hk⟩
def entA (m : EntM) : Value := .agg #[strV m.e.key, .int .i64 m.e.v.kind, strV m.e.v.s, m.vL, m.vZ, m.vH, .int .i64 m.e.till]
theorem blk7 {w : World} {g : Nat} {a b c d e f h : Value} {T : TypeId} (hg : w.heap[g]? = some (.cells #[a, b, c, d, e, f, h] T (0, 0))) :
    w.cell? ⟨g, 0, none⟩ = some a ∧ w.cell? ⟨g, 1, none⟩ = some b ∧ w.cell? ⟨g, 2, none⟩ = some c ∧ w.cell? ⟨g, 3, none⟩ = some d ∧ w.cell? ⟨g, 4, none⟩ = some e ∧ w.cell? ⟨g, 5, none⟩ = some f ∧ w.cell? ⟨g, 6, none⟩ = some h :=
  ⟨cellB hg rfl, cellB hg rfl, cellB hg rfl, cellB hg rfl, cellB hg rfl, cellB hg rfl, cellB hg rfl⟩
end Go.Proofs.YtfhlhpknobkplaaDoor
namespace Go.Proofs.YtfhlhpknobkplaaDoor
open Go.RowKit
attribute [local go_sem] fold_part fold_some fold_some' partAt_zero

theorem wrapU_int (n : Int) : n % 18446744073709551616 = ((wrapU n : Nat) : Int) := by unfold wrapU; omega
theorem u8_kind (k : Int) : k % 256 = (((UInt8.ofNat (k % 256).toNat).toNat : Nat) : Int) := by
  have : (UInt8.ofNat (k % 256).toNat).toNat = (k % 256).toNat % 256 := by simp
  rw [this]; omega

theorem flat_take {α : Type} (f : α → Bs) {xs : List α} {i : Nat} {x : α} (h : xs[i]? = some x) : xs.flatMap f = (xs.take i).flatMap f ++ (f x ++ (xs.drop (i + 1)).flatMap f) ∧ (xs.take (i + 1)).flatMap f = (xs.take i).flatMap f ++ f x := by
  obtain ⟨hl, e⟩ := List.getElem?_eq_some_iff.1 h
  constructor
  · conv => lhs; rw [← List.take_append_drop i xs, List.drop_eq_getElem_cons hl, e]
    rw [List.flatMap_append, List.flatMap_cons]
  · rw [List.take_succ_eq_append_getElem hl, e, List.flatMap_append]; simp
theorem flat_many {α : Type} (f : α → Bs) : ∀ {xs : List α}, (∀ x, 1 ≤ (f x).length) → xs.length ≤ (xs.flatMap f).length
  | [], _ => Nat.le_refl _
  | x :: xs, h => by
    have := flat_many f (xs := xs) h
    have := h x
    rw [List.flatMap_cons, List.length_append, List.length_cons]
    omega
theorem wrap_u64 (n : Int) : IntKind.u64.wrap n = ((wrapU n : Nat) : Int) := by rw [IntKind.wrap_u64]; exact wrapU_int n

set_option maxRecDepth 100000 in
set_option maxHeartbeats 1600000 in
theorem pwentry (W0 w : World) (x : Bs) (m : EntM) (h : Wr W0 w x) (hs : SubsV W0 m) (hk : 1 ≤ m.e.v.kind ∧ m.e.v.kind ≤ 5) (hl : x.length + (entB m.e).length ≤ 67108864) :
    Calls Tryd.prog 53 #[.pointer (some ⟨W0.heap.size, 0, none⟩), entA m] w (WEnd W0 w (x ++ entB m.e)) := by
  obtain ⟨⟨key, ⟨kk, s, L, Z, H⟩, till⟩, vL, vZ, vH⟩ := m
  simp only at hs hk hl
  unfold entA
  simp only
  obtain ⟨hL, hZ, hH⟩ := hs
  simp only at hL hZ hH
  obtain ⟨apL, capL, rfl, _⟩ := hL.parts
  obtain ⟨apZ, capZ, rfl, _⟩ := hZ.parts
  obtain ⟨apH, capH, rfl, _⟩ := hH.parts
  rw [List.length_map] at hL ⊢
  have hcx : ∃ c : UInt8, kk = (c.toNat : Int) := by
    refine ⟨UInt8.ofNat kk.toNat, ?_⟩
    have : (UInt8.ofNat kk.toNat).toNat = kk.toNat % 256 := by simp
    rw [this]
    omega
  obtain ⟨c, rfl⟩ := hcx
  generalize hB : entB ⟨key, ⟨(c.toNat : Int), s, L, Z, H⟩, till⟩ = B at *
  have hcc : UInt8.ofNat ((c.toNat : Int) % 256).toNat = c := by
    have hc := c.toNat_lt
    have : ((c.toNat : Int) % 256).toNat = c.toNat := by omega
    rw [this]; simp
  have hB2 : B = [c] ++ (leB 8 (wrapU till) ++ (textB key ++ bodyV ⟨(c.toNat : Int), s, L, Z, H⟩)) := by rw [← hB]; simp [entB, hcc]
  have hBl : B.length = 1 + (8 + (4 + key.length + (bodyV ⟨(c.toNat : Int), s, L, Z, H⟩).length)) := by rw [hB2]; simp only [List.length_append, leB_len, textB, List.length_singleton]
  rw [hBl] at hl
  subst hB2
  have hba := Kept.allocd w (.cells #[.string ⟨key.toArray⟩, .int .i64 (c.toNat : Int), .string ⟨s.toArray⟩, .slice apL L.length capL, .slice apZ Z.length capZ, .slice apH H.length capH, .int .i64 till] 56)
  have hbg := heap_alloc_new w (.cells #[.string ⟨key.toArray⟩, .int .i64 (c.toNat : Int), .string ⟨s.toArray⟩, .slice apL L.length capL, .slice apZ Z.length capZ, .slice apH H.length capH, .int .i64 till] 56)
  have hg : W0.heap.size < w.heap.size := by obtain ⟨_, v, h2, _⟩ := h; exact lt_of_heap h2
  have hsz : (w.alloc (.cells #[.string ⟨key.toArray⟩, .int .i64 (c.toNat : Int), .string ⟨s.toArray⟩, .slice apL L.length capL, .slice apZ Z.length capZ, .slice apH H.length capH, .int .i64 till] 56)).heap.size = w.heap.size + 1 := World.size_alloc _ _
  have HW1 := Lib.hid (h.kept hba)
  have HBG := Lib.hid hbg
  have HBA := Lib.hid hba
  have HLN := Lib.hid hl
  have HL := Lib.hid hL
  have HZ := Lib.hid hZ
  have HH := Lib.hid hH
  have HSZ := Lib.hid hsz
  generalize hBV : bodyV ⟨(c.toNat : Int), s, L, Z, H⟩ = BV at *
  have HBV := Lib.hid hBV
  have HBK := Lib.hid (Kept.allocd (w.alloc (.cells #[.string ⟨key.toArray⟩, .int .i64 (c.toNat : Int), .string ⟨s.toArray⟩, .slice apL L.length capL, .slice apZ Z.length capZ, .slice apH H.length capH, .int .i64 till] 56)) (.cells #[.int .u8 (c.toNat : Int)] 5))
  have hcv := conv_of (bytes_fresh (w.alloc (.cells #[.string ⟨key.toArray⟩, .int .i64 (c.toNat : Int), .string ⟨s.toArray⟩, .slice apL L.length capL, .slice apZ Z.length capZ, .slice apH H.length capH, .int .i64 till] 56)) [c])
  rw [hsz] at hcv
  have hcv2 : (convert 22 9 (.slice (some ⟨w.heap.size + 1, 0, none⟩) 1 1)).run Tryd.prog ((w.alloc (.cells #[.string ⟨key.toArray⟩, .int .i64 (c.toNat : Int), .string ⟨s.toArray⟩, .slice apL L.length capL, .slice apZ Z.length capZ, .slice apH H.length capH, .int .i64 till] 56)).alloc (.cells #[.int .u8 (c.toNat : Int)] 5)) = .ok (.string ⟨#[c]⟩) ((w.alloc (.cells #[.string ⟨key.toArray⟩, .int .i64 (c.toNat : Int), .string ⟨s.toArray⟩, .slice apL L.length capL, .slice apZ Z.length capZ, .slice apH H.length capH, .int .i64 till] 56)).alloc (.cells #[.int .u8 (c.toNat : Int)] 5)) := hcv
  clear hcv
  unfold strV
  clear hl hL hZ hH hB hBl hba hbg h hsz hcc hBV
  go_enter Tryd.func53, Tryd.ntmps53
  go_wp2_with fail
  generalize w.alloc (.cells #[.string ⟨key.toArray⟩, .int .i64 (c.toNat : Int), .string ⟨s.toArray⟩, .slice apL L.length capL, .slice apZ Z.length capZ, .slice apH H.length capH, .int .i64 till] 56) = W1 at *
  generalize hb3 : w.heap.size = b3 at *
  have hb3g : ¬ (b3 = W0.heap.size) := by omega
  refine (praw W0 _ x [c] (HW1.out.kept HBK.out) (by have := HLN.out; rw [List.length_singleton]; omega)).mono ?_
  rintro e w2 ⟨⟨u, rfl⟩, hw, hwk⟩
  have HW2 := Lib.hid hw
  have HWK2 := Lib.hid ((HBA.out.trans HBK.out).wk W0.heap.size |>.trans hwk)
  have hbx := ((HBK.out.wk W0.heap.size).trans hwk).heap HBG.out hb3g (by decide)
  have HBX := Lib.hid hbx
  have HBX2 := Lib.hid hbx
  obtain ⟨a0, a1, a2, a3, a4, a5, a6⟩ := blk7 hbx
  clear hw hwk hbx hcv2 HW1 HBG HBA HBK HSZ
  have hwu := wrap_u64 till
  go_wp2_with fail
  refine (peight W0 w2 _ (wrapU till) (wrapU_lt _) HW2.out (by have := HLN.out; rw [List.length_append, List.length_singleton]; omega)).mono ?_
  rintro e w3 ⟨⟨u, rfl⟩, hw, hwk⟩
  have HW3 := Lib.hid hw
  have HWK3 := Lib.hid (HWK2.out.trans hwk)
  have HBX3 := Lib.hid (hwk.heap HBX2.out hb3g (by decide))
  clear hw hwk hwu a0 a1 a2 a3 a4 a5 a6
  obtain ⟨a0, a1, a2, a3, a4, a5, a6⟩ := blk7 HBX3.out
  go_wp2_with fail
  refine (pwtext W0 w3 _ key HW3.out (by have := HLN.out; rw [List.length_append, List.length_append, List.length_singleton, leB_len]; omega)).mono ?_
  rintro e w4 ⟨⟨u, rfl⟩, hw, hwk⟩
  have HW4 := Lib.hid hw
  have HWK4 := Lib.hid (HWK3.out.trans hwk)
  have HBX4 := Lib.hid (hwk.heap HBX3.out hb3g (by decide))
  clear hw hwk a0 a1 a2 a3 a4 a5 a6
  have HX4 : ∃ x4, x4 = x ++ [c] ++ leB 8 (wrapU till) ++ textB key := ⟨_, rfl⟩
  obtain ⟨x4, hx4⟩ := HX4
  rw [← hx4] at HW4
  have hx4l : x4.length = x.length + (1 + (8 + (4 + key.length))) := by rw [hx4]; simp only [List.length_append, List.length_singleton, leB_len, textB]; omega
  have hxe : x ++ c :: (leB 8 (wrapU till) ++ (textB key ++ BV)) = x4 ++ BV := by rw [hx4]; simp
  have HXE := Lib.hid hxe
  have HX4L := Lib.hid hx4l
  have HBB : Hid (x4.length + BV.length ≤ 67108864) := Lib.hid (by have := HLN.out; omega)
  clear hx4 hx4l hxe HW2 HW3 HWK2 HWK3 HBX HBX3 HLN
  have hkk : (c.toNat : Int) = 1 ∨ (c.toNat : Int) = 2 ∨ (c.toNat : Int) = 3 ∨ (c.toNat : Int) = 4 ∨ (c.toNat : Int) = 5 := by omega
  have hbv := HBV.out
  have hbx4 := HBX4.out
  rcases hkk with hkn | hkn | hkn | hkn | hkn
  · rw [hkn] at hbv hbx4
    have HBX4 := Lib.hid hbx4
    clear hkn hk hbx4 HBV
    simp only [bodyV, if_true] at hbv
    have HF : Hid (x4.length + 4 + s.length ≤ 67108864) := Lib.hid (by have := HBB.out; rw [← hbv] at this; unfold textB at this; rw [List.length_append, leB_len] at this; omega)
    have HBV1 := Lib.hid hbv
    clear hbv HBB HX4L
    obtain ⟨a0, a1, a2, a3, a4, a5, a6⟩ := blk7 HBX4.out
    go_wp2_with fail
    refine (pwtext W0 w4 _ s HW4.out HF.out).mono ?_
    rintro e w5 ⟨⟨u, rfl⟩, hw, hwk⟩
    have HW5 := Lib.hid hw
    have HWK5 := Lib.hid (HWK4.out.trans hwk)
    have HBX5 := Lib.hid (hwk.heap HBX4.out hb3g (by decide))
    clear hw hwk a0 a1 a2 a3 a4 a5 a6
    rw [HBV1.out] at HW5
    go_wp2_with fail
    refine bodyPost_end (results_none rfl _ _ _) rfl ⟨⟨_, rfl⟩, by first | exact HW5.out | (have := HW5.out; rw [← HXE.out] at this; exact this), HWK5.out⟩
  · rw [hkn] at hbv hbx4
    have HBX4 := Lib.hid hbx4
    clear hkn hk hbx4 HBV
    simp only [bodyV, show ¬ ((2 : Int) = 1) by decide, show ¬ ((2 : Int) = 4) by decide, show ¬ ((2 : Int) = 5) by decide, if_false, if_true] at hbv
    have hbb := HBB.out
    rw [← hbv, List.length_append, leB_len] at hbb
    have hmany := flat_many textB (xs := L) (fun x => by unfold textB; rw [List.length_append, leB_len]; omega)
    obtain ⟨n, hn⟩ : ∃ n, n = L.length := ⟨_, rfl⟩
    have hn7 : n ≤ 67108864 := by omega
    have hbe : x4 ++ BV = (x4 ++ leB 4 n) ++ L.flatMap textB := by rw [← hbv, hn, List.append_assoc]
    have HBE := Lib.hid hbe
    obtain ⟨x5, hx5⟩ : ∃ x5, x5 = x4 ++ leB 4 n := ⟨_, rfl⟩
    have hx5l : x5.length = x4.length + 4 := by rw [hx5, List.length_append, leB_len]
    have HBB5 : Hid (x5.length + (L.flatMap textB).length ≤ 67108864) := Lib.hid (by omega)
    have HF : Hid (x4.length + 4 ≤ 67108864) := Lib.hid (by omega)
    have HX5 := Lib.hid hx5
    rw [← hn] at HBX4 ⊢
    have HN := Lib.hid hn
    have HRW := HL
    rw [← hn] at HRW
    have hn63 : n ≤ 9223372036854775807 := by omega
    clear hbv hbb hmany hbe hx5 hx5l hn HBB HX4L
    obtain ⟨a0, a1, a2, a3, a4, a5, a6⟩ := blk7 HBX4.out
    go_wp2_with fail
    refine (pfour W0 w4 _ n hn63 HW4.out HF.out).mono ?_
    rintro e w5 ⟨⟨u, rfl⟩, hw, hwk⟩
    have HW5 := Lib.hid hw
    have HWK5 := Lib.hid (HWK4.out.trans hwk)
    have HBX5 := Lib.hid (hwk.heap HBX4.out hb3g (by decide))
    clear hw hwk a0 a1 a2 a3 a4 a5 a6
    rw [← HX5.out] at HW5
    obtain ⟨a0, a1, a2, a3, a4, a5, a6⟩ := blk7 HBX5.out
    go_wp2_with fail
    clear a0 a1 a2 a3 a4 a5 a6
    go_loopw [55] (fun vi wr => ∃ i : Nat, vi = .int .i64 i ∧ i ≤ n ∧ Wr W0 wr (x5 ++ (L.take i).flatMap textB) ∧ WK W0.heap.size w wr) (fun vi _ => n - (intOf vi).toNat)
    case atStart => exact ⟨0, rfl, Nat.zero_le _, by rw [List.take_zero, List.flatMap_nil, List.append_nil]; exact HW5.out, HWK5.out⟩
    case round =>
      obtain ⟨i, rfl, hi, hw, hwk⟩ := hrel
      have HW := Lib.hid hw
      have HWK := Lib.hid hwk
      clear hw hwk HW5 HWK5 HBX5
      by_cases hlt : i < n
      · have hil : i < L.length := by have := HN.out; omega
        obtain ⟨y, hy⟩ : ∃ y, L[i]? = some y := ⟨L[i], List.getElem?_eq_getElem hil⟩
        obtain ⟨e1, e2⟩ := flat_take textB hy
        have hbb := HBB5.out
        rw [e1] at hbb
        simp only [List.length_append] at hbb
        have HE2 := Lib.hid e2
        obtain ⟨ad, rfl, hcell⟩ := RowV.cell (RowV.keptNo HRW.out HW.out.1) (i := i) (v := strV y) (by rw [List.getElem?_map, hy]; rfl)
        unfold strV at hcell
        have hbt : (x5 ++ (L.take i).flatMap textB).length + 4 + y.length ≤ 67108864 := by
          have : (textB y).length = 4 + y.length := by unfold textB; rw [List.length_append, leB_len]
          rw [List.length_append]; omega
        have HBT := Lib.hid hbt
        clear e1 e2 hbb hbt hil
        go_wp2_with fail
        refine (pwtext W0 wr _ y HW.out HBT.out).mono ?_
        rintro e w6 ⟨⟨u, rfl⟩, hw, hwk⟩
        rw [List.append_assoc, ← HE2.out] at hw
        have HW6 := Lib.hid hw
        have HWK6 := Lib.hid (HWK.out.trans hwk)
        clear hw hwk hcell
        go_wp2
        go_roundw
        case rel => exact ⟨i + 1, by go_num, by omega, HW6.out, HWK6.out⟩
        case measure => simp [intOf]; omega
      · have hfin : (L.take i) = L := List.take_of_length_le (by have := HN.out; omega)
        have hw := HW.out
        rw [hfin] at hw
        have HW6 := Lib.hid hw
        clear hw hfin
        go_wp2_with fail
        refine bodyPost_end (results_none rfl _ _ _) rfl ⟨⟨_, rfl⟩, by have := HW6.out; rw [HX5.out, ← HBE.out] at this; first | exact this | (rw [← HXE.out] at this; exact this), HWK.out⟩
  · rw [hkn] at hbv hbx4
    have HBX4 := Lib.hid hbx4
    clear hkn hk hbx4 HBV
    simp only [bodyV, show ¬ ((3 : Int) = 1) by decide, show ¬ ((3 : Int) = 4) by decide, show ¬ ((3 : Int) = 5) by decide, if_false, if_true] at hbv
    have hbb := HBB.out
    rw [← hbv, List.length_append, leB_len] at hbb
    have hmany := flat_many textB (xs := L) (fun x => by unfold textB; rw [List.length_append, leB_len]; omega)
    obtain ⟨n, hn⟩ : ∃ n, n = L.length := ⟨_, rfl⟩
    have hn7 : n ≤ 67108864 := by omega
    have hbe : x4 ++ BV = (x4 ++ leB 4 n) ++ L.flatMap textB := by rw [← hbv, hn, List.append_assoc]
    have HBE := Lib.hid hbe
    obtain ⟨x5, hx5⟩ : ∃ x5, x5 = x4 ++ leB 4 n := ⟨_, rfl⟩
    have hx5l : x5.length = x4.length + 4 := by rw [hx5, List.length_append, leB_len]
    have HBB5 : Hid (x5.length + (L.flatMap textB).length ≤ 67108864) := Lib.hid (by omega)
    have HF : Hid (x4.length + 4 ≤ 67108864) := Lib.hid (by omega)
    have HX5 := Lib.hid hx5
    rw [← hn] at HBX4 ⊢
    have HN := Lib.hid hn
    have HRW := HL
    rw [← hn] at HRW
    have hn63 : n ≤ 9223372036854775807 := by omega
    clear hbv hbb hmany hbe hx5 hx5l hn HBB HX4L
    obtain ⟨a0, a1, a2, a3, a4, a5, a6⟩ := blk7 HBX4.out
    go_wp2_with fail
    refine (pfour W0 w4 _ n hn63 HW4.out HF.out).mono ?_
    rintro e w5 ⟨⟨u, rfl⟩, hw, hwk⟩
    have HW5 := Lib.hid hw
    have HWK5 := Lib.hid (HWK4.out.trans hwk)
    have HBX5 := Lib.hid (hwk.heap HBX4.out hb3g (by decide))
    clear hw hwk a0 a1 a2 a3 a4 a5 a6
    rw [← HX5.out] at HW5
    obtain ⟨a0, a1, a2, a3, a4, a5, a6⟩ := blk7 HBX5.out
    go_wp2_with fail
    clear a0 a1 a2 a3 a4 a5 a6
    go_loopw [55] (fun vi wr => ∃ i : Nat, vi = .int .i64 i ∧ i ≤ n ∧ Wr W0 wr (x5 ++ (L.take i).flatMap textB) ∧ WK W0.heap.size w wr) (fun vi _ => n - (intOf vi).toNat)
    case atStart => exact ⟨0, rfl, Nat.zero_le _, by rw [List.take_zero, List.flatMap_nil, List.append_nil]; exact HW5.out, HWK5.out⟩
    case round =>
      obtain ⟨i, rfl, hi, hw, hwk⟩ := hrel
      have HW := Lib.hid hw
      have HWK := Lib.hid hwk
      clear hw hwk HW5 HWK5 HBX5
      by_cases hlt : i < n
      · have hil : i < L.length := by have := HN.out; omega
        obtain ⟨y, hy⟩ : ∃ y, L[i]? = some y := ⟨L[i], List.getElem?_eq_getElem hil⟩
        obtain ⟨e1, e2⟩ := flat_take textB hy
        have hbb := HBB5.out
        rw [e1] at hbb
        simp only [List.length_append] at hbb
        have HE2 := Lib.hid e2
        obtain ⟨ad, rfl, hcell⟩ := RowV.cell (RowV.keptNo HRW.out HW.out.1) (i := i) (v := strV y) (by rw [List.getElem?_map, hy]; rfl)
        unfold strV at hcell
        have hbt : (x5 ++ (L.take i).flatMap textB).length + 4 + y.length ≤ 67108864 := by
          have : (textB y).length = 4 + y.length := by unfold textB; rw [List.length_append, leB_len]
          rw [List.length_append]; omega
        have HBT := Lib.hid hbt
        clear e1 e2 hbb hbt hil
        go_wp2_with fail
        refine (pwtext W0 wr _ y HW.out HBT.out).mono ?_
        rintro e w6 ⟨⟨u, rfl⟩, hw, hwk⟩
        rw [List.append_assoc, ← HE2.out] at hw
        have HW6 := Lib.hid hw
        have HWK6 := Lib.hid (HWK.out.trans hwk)
        clear hw hwk hcell
        go_wp2
        go_roundw
        case rel => exact ⟨i + 1, by go_num, by omega, HW6.out, HWK6.out⟩
        case measure => simp [intOf]; omega
      · have hfin : (L.take i) = L := List.take_of_length_le (by have := HN.out; omega)
        have hw := HW.out
        rw [hfin] at hw
        have HW6 := Lib.hid hw
        clear hw hfin
        go_wp2_with fail
        refine bodyPost_end (results_none rfl _ _ _) rfl ⟨⟨_, rfl⟩, by have := HW6.out; rw [HX5.out, ← HBE.out] at this; first | exact this | (rw [← HXE.out] at this; exact this), HWK.out⟩
  · rw [hkn] at hbv hbx4
    have HBX4 := Lib.hid hbx4
    clear hkn hk hbx4 HBV
    simp only [bodyV, show ¬ ((4 : Int) = 1) by decide, show ¬ ((4 : Int) = 5) by decide, if_false, if_true] at hbv
    have hbb := HBB.out
    rw [← hbv, List.length_append, leB_len] at hbb
    have hmany := flat_many (fun z : Bs × Int => textB z.1 ++ leB 8 (wrapU z.2)) (xs := Z) (fun x => by unfold textB; simp only [List.length_append, leB_len]; omega)
    obtain ⟨n, hn⟩ : ∃ n, n = Z.length := ⟨_, rfl⟩
    have hn7 : n ≤ 67108864 := by omega
    have hbe : x4 ++ BV = (x4 ++ leB 4 n) ++ Z.flatMap (fun z : Bs × Int => textB z.1 ++ leB 8 (wrapU z.2)) := by rw [← hbv, hn, List.append_assoc]
    have HBE := Lib.hid hbe
    obtain ⟨x5, hx5⟩ : ∃ x5, x5 = x4 ++ leB 4 n := ⟨_, rfl⟩
    have hx5l : x5.length = x4.length + 4 := by rw [hx5, List.length_append, leB_len]
    have HBB5 : Hid (x5.length + (Z.flatMap (fun z : Bs × Int => textB z.1 ++ leB 8 (wrapU z.2))).length ≤ 67108864) := Lib.hid (by omega)
    have HF : Hid (x4.length + 4 ≤ 67108864) := Lib.hid (by omega)
    have HX5 := Lib.hid hx5
    rw [← hn] at HBX4 ⊢
    have HN := Lib.hid hn
    have HRW := HZ
    rw [← hn] at HRW
    have hn63 : n ≤ 9223372036854775807 := by omega
    clear hbv hbb hmany hbe hx5 hx5l hn HBB HX4L
    obtain ⟨a0, a1, a2, a3, a4, a5, a6⟩ := blk7 HBX4.out
    go_wp2_with fail
    refine (pfour W0 w4 _ n hn63 HW4.out HF.out).mono ?_
    rintro e w5 ⟨⟨u, rfl⟩, hw, hwk⟩
    have HW5 := Lib.hid hw
    have HWK5 := Lib.hid (HWK4.out.trans hwk)
    have HBX5 := Lib.hid (hwk.heap HBX4.out hb3g (by decide))
    clear hw hwk a0 a1 a2 a3 a4 a5 a6
    rw [← HX5.out] at HW5
    obtain ⟨a0, a1, a2, a3, a4, a5, a6⟩ := blk7 HBX5.out
    go_wp2_with fail
    clear a0 a1 a2 a3 a4 a5 a6
    go_loopw [73] (fun vi wr => ∃ i : Nat, vi = .int .i64 i ∧ i ≤ n ∧ Wr W0 wr (x5 ++ (Z.take i).flatMap (fun z : Bs × Int => textB z.1 ++ leB 8 (wrapU z.2))) ∧ WK W0.heap.size w wr) (fun vi _ => n - (intOf vi).toNat)
    case atStart => exact ⟨0, rfl, Nat.zero_le _, by rw [List.take_zero, List.flatMap_nil, List.append_nil]; exact HW5.out, HWK5.out⟩
    case round =>
      obtain ⟨i, rfl, hi, hw, hwk⟩ := hrel
      have HW := Lib.hid hw
      have HWK := Lib.hid hwk
      clear hw hwk HW5 HWK5 HBX5
      by_cases hlt : i < n
      · have hil : i < Z.length := by have := HN.out; omega
        obtain ⟨y, hy⟩ : ∃ y, Z[i]? = some y := ⟨Z[i], List.getElem?_eq_getElem hil⟩
        obtain ⟨e1, e2⟩ := flat_take (fun z : Bs × Int => textB z.1 ++ leB 8 (wrapU z.2)) hy
        have hbb := HBB5.out
        rw [e1] at hbb
        simp only [List.length_append] at hbb
        have HE2 := Lib.hid e2
        obtain ⟨ym, yn⟩ := y
        obtain ⟨ad, rfl, hc0, hc1⟩ := RowK.at (k := 2) (f := zCells) (fun _ => rfl) (RowK.kept HRW.out HW.out.1) hy
        have d0 := hc0 _ (by decide) rfl
        have d1 := hc1 1 _ (by decide) (by decide) rfl
        unfold strV at d0
        have ht4 : ∀ u : Bs, (textB u).length = 4 + u.length := fun u => by unfold textB; rw [List.length_append, leB_len]
        simp only [ht4, leB_len] at hbb
        have HBT : Hid ((x5 ++ (Z.take i).flatMap (fun z : Bs × Int => textB z.1 ++ leB 8 (wrapU z.2))).length + 4 + ym.length ≤ 67108864) := Lib.hid (by rw [List.length_append]; omega)
        have HBT2 : Hid ((x5 ++ (Z.take i).flatMap (fun z : Bs × Int => textB z.1 ++ leB 8 (wrapU z.2)) ++ textB ym).length + 8 ≤ 67108864) := Lib.hid (by rw [List.length_append, List.length_append, ht4]; omega)
        have HKA := Lib.hid (Kept.allocd wr (.cells #[.string ⟨ym.toArray⟩, .int .i64 yn] 99))
        have HGA := Lib.hid (heap_alloc_new wr (.cells #[.string ⟨ym.toArray⟩, .int .i64 yn] 99))
        have HGL : Hid (W0.heap.size < wr.heap.size) := Lib.hid (by obtain ⟨_, v, h2, _⟩ := HW.out; exact lt_of_heap h2)
        clear e1 e2 hbb hil hc0 hc1 ht4
        go_wp2_with fail
        clear d0 d1
        generalize wr.alloc (.cells #[.string ⟨ym.toArray⟩, .int .i64 yn] 99) = W5 at *
        generalize wr.heap.size = b7 at *
        refine (pwtext W0 W5 _ ym (HW.out.kept HKA.out) HBT.out).mono ?_
        rintro e w6 ⟨⟨u, rfl⟩, hw, hwk⟩
        have HW6 := Lib.hid hw
        have HWK6 := Lib.hid ((HWK.out.trans (HKA.out.wk _)).trans hwk)
        have hg7 := hwk.heap HGA.out (fun h => by have := HGL.out; omega) (by decide)
        have d0 := cellB hg7 (i := 0) rfl
        have d1 := cellB hg7 (i := 1) rfl
        clear hw hwk hg7
        have hwu := wrap_u64 yn
        go_wp2_with fail
        refine (peight W0 w6 _ (wrapU yn) (wrapU_lt _) HW6.out HBT2.out).mono ?_
        rintro e w7 ⟨⟨u, rfl⟩, hw, hwk⟩
        rw [List.append_assoc, List.append_assoc, show textB ym ++ leB 8 (wrapU yn) = (fun z : Bs × Int => textB z.1 ++ leB 8 (wrapU z.2)) (ym, yn) from rfl, ← HE2.out] at hw
        have HW7 := Lib.hid hw
        have HWK7 := Lib.hid (HWK6.out.trans hwk)
        clear hw hwk d0 d1
        go_wp2
        go_roundw
        case rel => exact ⟨i + 1, by go_num, by omega, HW7.out, HWK7.out⟩
        case measure => simp [intOf]; omega
      · have hfin : (Z.take i) = Z := List.take_of_length_le (by have := HN.out; omega)
        have hw := HW.out
        rw [hfin] at hw
        have HW6 := Lib.hid hw
        clear hw hfin
        go_wp2_with fail
        refine bodyPost_end (results_none rfl _ _ _) rfl ⟨⟨_, rfl⟩, by have := HW6.out; rw [HX5.out, ← HBE.out] at this; first | exact this | (rw [← HXE.out] at this; exact this), HWK.out⟩
  · rw [hkn] at hbv hbx4
    have HBX4 := Lib.hid hbx4
    clear hkn hk hbx4 HBV
    simp only [bodyV, show ¬ ((5 : Int) = 1) by decide, show ¬ ((5 : Int) = 4) by decide, if_false, if_true] at hbv
    have hbb := HBB.out
    rw [← hbv, List.length_append, leB_len] at hbb
    have hmany := flat_many (fun f : Bs × Bs => textB f.1 ++ textB f.2) (xs := H) (fun x => by unfold textB; simp only [List.length_append, leB_len]; omega)
    obtain ⟨n, hn⟩ : ∃ n, n = H.length := ⟨_, rfl⟩
    have hn7 : n ≤ 67108864 := by omega
    have hbe : x4 ++ BV = (x4 ++ leB 4 n) ++ H.flatMap (fun f : Bs × Bs => textB f.1 ++ textB f.2) := by rw [← hbv, hn, List.append_assoc]
    have HBE := Lib.hid hbe
    obtain ⟨x5, hx5⟩ : ∃ x5, x5 = x4 ++ leB 4 n := ⟨_, rfl⟩
    have hx5l : x5.length = x4.length + 4 := by rw [hx5, List.length_append, leB_len]
    have HBB5 : Hid (x5.length + (H.flatMap (fun f : Bs × Bs => textB f.1 ++ textB f.2)).length ≤ 67108864) := Lib.hid (by omega)
    have HF : Hid (x4.length + 4 ≤ 67108864) := Lib.hid (by omega)
    have HX5 := Lib.hid hx5
    rw [← hn] at HBX4 ⊢
    have HN := Lib.hid hn
    have HRW := HH
    rw [← hn] at HRW
    have hn63 : n ≤ 9223372036854775807 := by omega
    clear hbv hbb hmany hbe hx5 hx5l hn HBB HX4L
    obtain ⟨a0, a1, a2, a3, a4, a5, a6⟩ := blk7 HBX4.out
    go_wp2_with fail
    refine (pfour W0 w4 _ n hn63 HW4.out HF.out).mono ?_
    rintro e w5 ⟨⟨u, rfl⟩, hw, hwk⟩
    have HW5 := Lib.hid hw
    have HWK5 := Lib.hid (HWK4.out.trans hwk)
    have HBX5 := Lib.hid (hwk.heap HBX4.out hb3g (by decide))
    clear hw hwk a0 a1 a2 a3 a4 a5 a6
    rw [← HX5.out] at HW5
    obtain ⟨a0, a1, a2, a3, a4, a5, a6⟩ := blk7 HBX5.out
    go_wp2_with fail
    clear a0 a1 a2 a3 a4 a5 a6
    go_loopw [97] (fun vi wr => ∃ i : Nat, vi = .int .i64 i ∧ i ≤ n ∧ Wr W0 wr (x5 ++ (H.take i).flatMap (fun f : Bs × Bs => textB f.1 ++ textB f.2)) ∧ WK W0.heap.size w wr) (fun vi _ => n - (intOf vi).toNat)
    case atStart => exact ⟨0, rfl, Nat.zero_le _, by rw [List.take_zero, List.flatMap_nil, List.append_nil]; exact HW5.out, HWK5.out⟩
    case round =>
      obtain ⟨i, rfl, hi, hw, hwk⟩ := hrel
      have HW := Lib.hid hw
      have HWK := Lib.hid hwk
      clear hw hwk HW5 HWK5 HBX5
      by_cases hlt : i < n
      · have hil : i < H.length := by have := HN.out; omega
        obtain ⟨y, hy⟩ : ∃ y, H[i]? = some y := ⟨H[i], List.getElem?_eq_getElem hil⟩
        obtain ⟨e1, e2⟩ := flat_take (fun f : Bs × Bs => textB f.1 ++ textB f.2) hy
        have hbb := HBB5.out
        rw [e1] at hbb
        simp only [List.length_append] at hbb
        have HE2 := Lib.hid e2
        obtain ⟨ym, yn⟩ := y
        obtain ⟨ad, rfl, hc0, hc1⟩ := RowK.at (k := 2) (f := hCells) (fun _ => rfl) (RowK.kept HRW.out HW.out.1) hy
        have d0 := hc0 _ (by decide) rfl
        have d1 := hc1 1 _ (by decide) (by decide) rfl
        unfold strV at d0 d1
        have ht4 : ∀ u : Bs, (textB u).length = 4 + u.length := fun u => by unfold textB; rw [List.length_append, leB_len]
        simp only [ht4, leB_len] at hbb
        have HBT : Hid ((x5 ++ (H.take i).flatMap (fun f : Bs × Bs => textB f.1 ++ textB f.2)).length + 4 + ym.length ≤ 67108864) := Lib.hid (by rw [List.length_append]; omega)
        have HBT2 : Hid ((x5 ++ (H.take i).flatMap (fun f : Bs × Bs => textB f.1 ++ textB f.2) ++ textB ym).length + 4 + yn.length ≤ 67108864) := Lib.hid (by rw [List.length_append, List.length_append, ht4]; omega)
        have HKA := Lib.hid (Kept.allocd wr (.cells #[.string ⟨ym.toArray⟩, .string ⟨yn.toArray⟩] 87))
        have HGA := Lib.hid (heap_alloc_new wr (.cells #[.string ⟨ym.toArray⟩, .string ⟨yn.toArray⟩] 87))
        have HGL : Hid (W0.heap.size < wr.heap.size) := Lib.hid (by obtain ⟨_, v, h2, _⟩ := HW.out; exact lt_of_heap h2)
        clear e1 e2 hbb hil hc0 hc1 ht4
        go_wp2_with fail
        clear d0 d1
        generalize wr.alloc (.cells #[.string ⟨ym.toArray⟩, .string ⟨yn.toArray⟩] 87) = W5 at *
        generalize wr.heap.size = b7 at *
        refine (pwtext W0 W5 _ ym (HW.out.kept HKA.out) HBT.out).mono ?_
        rintro e w6 ⟨⟨u, rfl⟩, hw, hwk⟩
        have HW6 := Lib.hid hw
        have HWK6 := Lib.hid ((HWK.out.trans (HKA.out.wk _)).trans hwk)
        have hg7 := hwk.heap HGA.out (fun h => by have := HGL.out; omega) (by decide)
        have d0 := cellB hg7 (i := 0) rfl
        have d1 := cellB hg7 (i := 1) rfl
        clear hw hwk hg7
        go_wp2_with fail
        refine (pwtext W0 w6 _ yn HW6.out HBT2.out).mono ?_
        rintro e w7 ⟨⟨u, rfl⟩, hw, hwk⟩
        rw [List.append_assoc, List.append_assoc, show textB ym ++ textB yn = (fun f : Bs × Bs => textB f.1 ++ textB f.2) (ym, yn) from rfl, ← HE2.out] at hw
        have HW7 := Lib.hid hw
        have HWK7 := Lib.hid (HWK6.out.trans hwk)
        clear hw hwk d0 d1
        go_wp2
        go_roundw
        case rel => exact ⟨i + 1, by go_num, by omega, HW7.out, HWK7.out⟩
        case measure => simp [intOf]; omega
      · have hfin : (H.take i) = H := List.take_of_length_le (by have := HN.out; omega)
        have hw := HW.out
        rw [hfin] at hw
        have HW6 := Lib.hid hw
        clear hw hfin
        go_wp2_with fail
        refine bodyPost_end (results_none rfl _ _ _) rfl ⟨⟨_, rfl⟩, by have := HW6.out; rw [HX5.out, ← HBE.out] at this; first | exact this | (rw [← HXE.out] at this; exact this), HWK.out⟩
end Go.Proofs.YtfhlhpknobkplaaDoor
namespace Go.Proofs.YtfhlhpknobkplaaDoor
open Go.RowKit
attribute [local go_sem] fold_part fold_some fold_some' partAt_zero

/-- What the function leaves: a writer. -/
def Written (w : World) (x : Bs) (e : Ending) (w' : World) : Prop := ∃ W0, e = .returned (.pointer (some ⟨W0.heap.size, 0, none⟩)) ∧ Kept NoBlock w W0 ∧ Wr W0 w' x

theorem RowK.at7 {w : World} {ap : Option Addr} {n cap : Nat} {ms : List EntM} (h : RowK 7 eCells w (.slice ap n cap) ms) {i : Nat} {m : EntM} (hi : ms[i]? = some m) :
    ∃ ad, ap = some ad ∧ w.cell? (ad.add (i * 7)) = some (strV m.e.key) ∧ w.cell? ⟨(ad.add (i * 7)).block, (ad.add (i * 7)).off + 1, none⟩ = some (.int .i64 m.e.v.kind) ∧ w.cell? ⟨(ad.add (i * 7)).block, (ad.add (i * 7)).off + 2, none⟩ = some (strV m.e.v.s) ∧
      w.cell? ⟨(ad.add (i * 7)).block, (ad.add (i * 7)).off + 3, none⟩ = some m.vL ∧ w.cell? ⟨(ad.add (i * 7)).block, (ad.add (i * 7)).off + 4, none⟩ = some m.vZ ∧ w.cell? ⟨(ad.add (i * 7)).block, (ad.add (i * 7)).off + 5, none⟩ = some m.vH ∧
      w.cell? ⟨(ad.add (i * 7)).block, (ad.add (i * 7)).off + 6, none⟩ = some (.int .i64 m.e.till) := by
  obtain ⟨ad, rfl, h0, h1⟩ := RowK.at (k := 7) (f := eCells) (fun _ => rfl) h hi
  exact ⟨ad, rfl, h0 _ (by decide) rfl, h1 1 _ (by decide) (by decide) rfl, h1 2 _ (by decide) (by decide) rfl, h1 3 _ (by decide) (by decide) rfl, h1 4 _ (by decide) (by decide) rfl, h1 5 _ (by decide) (by decide) rfl, h1 6 _ (by decide) (by decide) rfl⟩

theorem blk4 {w : World} {g : Nat} {a b c d : Value} {T : TypeId} (hg : w.heap[g]? = some (.cells #[a, b, c, d] T (0, 0))) :
    w.cell? ⟨g, 0, none⟩ = some a ∧ w.cell? ⟨g, 1, none⟩ = some b ∧ w.cell? ⟨g, 2, none⟩ = some c ∧ w.cell? ⟨g, 3, none⟩ = some d :=
  ⟨cellB hg rfl, cellB hg rfl, cellB hg rfl, cellB hg rfl⟩

set_option maxRecDepth 100000 in
set_option maxHeartbeats 1600000 in
theorem pwritten (w : World) (id sec : Nat) (off fork : Int) (v : Value) (ms : List EntM) (h : EntsV w v ms) (hid : id < 18446744073709551616) (hkd : ∀ m ∈ ms, 1 ≤ m.e.v.kind ∧ m.e.v.kind ≤ 5) (hl : (writtenB id off (ms.map (·.e))).length ≤ 67108864) :
    Calls Tryd.prog 34 #[.agg #[.int .u64 id, .int .i64 off, .int .u64 sec, .int .i64 fork], v] w (Written w (writtenB id off (ms.map (·.e)))) := by
  obtain ⟨hrow, hsub⟩ := h
  obtain ⟨ap, cap, rfl, hcp⟩ := hrow.parts
  have hfl : (ms.map (·.e)).flatMap entB = ms.flatMap (fun m => entB m.e) := by rw [List.flatMap_map]
  have hwl : (writtenB id off (ms.map (·.e))).length = 29 + (ms.flatMap (fun m => entB m.e)).length := by
    rw [writtenB, hfl, frontB, List.length_map]
    simp only [List.length_append, leB_len, signB, List.length_cons, List.length_nil]
  rw [hwl] at hl
  have hwe : writtenB id off (ms.map (·.e)) = frontB id off ms.length ++ ms.flatMap (fun m => entB m.e) := by rw [writtenB, hfl, List.length_map]
  rw [hwe]
  have hmany := flat_many (fun m : EntM => entB m.e) (xs := ms) (fun m => by unfold entB; rw [List.length_cons]; omega)
  obtain ⟨n, hn⟩ : ∃ n, n = ms.length := ⟨_, rfl⟩
  rw [← hn] at hrow hmany ⊢
  have hn7 : n ≤ 67108864 := by omega
  generalize hX : frontB id off n ++ ms.flatMap (fun m => entB m.e) = X
  have hX0 : X = signB ++ leB 8 id ++ leB 8 (wrapU off) ++ leB 4 n ++ ms.flatMap (fun m => entB m.e) := by rw [← hX, frontB]
  have HX := Lib.hid hX0
  have HHK := Lib.hid (Kept.allocd w (.cells #[.int .u64 id, .int .i64 off, .int .u64 sec, .int .i64 fork] 32))
  have HHG := Lib.hid (heap_alloc_new w (.cells #[.int .u64 id, .int .i64 off, .int .u64 sec, .int .i64 fork] 32))
  have HHS := Lib.hid (World.size_alloc w (.cells #[.int .u64 id, .int .i64 off, .int .u64 sec, .int .i64 fork] 32))
  have HROW := Lib.hid hrow
  have HSUB := Lib.hid hsub
  have HKD := Lib.hid hkd
  have HN := Lib.hid hn
  have HL := Lib.hid hl
  have HID := Lib.hid hid
  clear hX hX0 hrow hsub hkd hn hl hfl hwl hwe hmany hid
  go_enter Tryd.func34, Tryd.ntmps34
  go_wp2_with fail
  generalize w.alloc (.cells #[.int .u64 id, .int .i64 off, .int .u64 sec, .int .i64 fork] 32) = W0 at *
  generalize hb : w.heap.size = b at *
  have hW0 : W0.heap.size = b + 1 := HHS.out
  have hbg : ¬ (b = W0.heap.size) := by omega
  have hw0 : Wr W0 (W0.alloc (.cells #[.slice none 0 0, .int .i64 0] 77)) [] := by
    exact ⟨Kept.allocd W0 _, _, heap_alloc_new W0 _, OwnZ.nil _ _⟩
  rw [← hW0]
  have HK0 := Lib.hid ((Kept.allocd W0 (.cells #[.slice none 0 0, .int .i64 0] 77)).wk W0.heap.size)
  have HB0 := Lib.hid (HK0.out.heap HHG.out hbg (by decide))
  have HBG := Lib.hid hbg
  have HS := Lib.hid (show (⟨#[77, 73, 76, 76, 80, 79, 78, 68, 1]⟩ : ByteArray) = ⟨signB.toArray⟩ from rfl)
  have HW0 := Lib.hid hw0
  clear hW0 hbg hw0 hb
  rw [HS.out]
  refine (praw W0 _ [] signB HW0.out (by decide)).mono ?_
  rintro e w1 ⟨⟨u, rfl⟩, hw, hwk⟩
  have HW1 := Lib.hid hw
  have HB1 := Lib.hid (hwk.heap HB0.out HBG.out (by decide))
  have HK1 := Lib.hid (HK0.out.trans hwk)
  clear hw hwk HW0 HB0 HK0
  obtain ⟨a0, a1, a2, a3⟩ := blk4 HB1.out
  go_wp2_with fail
  refine (peight W0 _ _ id HID.out HW1.out (by decide)).mono ?_
  rintro e w2 ⟨⟨u, rfl⟩, hw, hwk⟩
  have HW2 := Lib.hid hw
  have HB2 := Lib.hid (hwk.heap HB1.out HBG.out (by decide))
  have HK2 := Lib.hid (HK1.out.trans hwk)
  clear hw hwk HW1 HB1 HK1 a0 a1 a2 a3
  obtain ⟨a0, a1, a2, a3⟩ := blk4 HB2.out
  have hwu := wrap_u64 off
  go_wp2_with fail
  refine (peight W0 _ _ (wrapU off) (wrapU_lt _) HW2.out (by rw [List.length_append, leB_len]; decide)).mono ?_
  rintro e w3 ⟨⟨u, rfl⟩, hw, hwk⟩
  have HW3 := Lib.hid hw
  have HK3 := Lib.hid (HK2.out.trans hwk)
  clear hw hwk HW2 HB2 HK2 a0 a1 a2 a3 hwu
  go_wp2_with fail
  refine (pfour W0 _ _ n (by omega) HW3.out (by rw [List.length_append, List.length_append, leB_len, leB_len]; decide)).mono ?_
  rintro e w4 ⟨⟨u, rfl⟩, hw, hwk⟩
  have HW4 := Lib.hid hw
  have HK4 := Lib.hid (HK3.out.trans hwk)
  clear hw hwk HW3 HK3
  go_wp2_with fail
  have hx5 : ∃ x5, x5 = [] ++ signB ++ leB 8 id ++ leB 8 (wrapU off) ++ leB 4 n := ⟨_, rfl⟩
  obtain ⟨x5, hx5⟩ := hx5
  rw [← hx5] at HW4
  have hx5l : x5.length = 29 := by rw [hx5]; simp only [List.length_append, leB_len]; decide
  have HX5 := Lib.hid hx5
  have HX5L := Lib.hid hx5l
  clear hx5 hx5l
  go_loopw [27] (fun vi wr => ∃ i : Nat, vi = .int .i64 i ∧ i ≤ n ∧ Wr W0 wr (x5 ++ (ms.take i).flatMap (fun m => entB m.e))) (fun vi _ => n - (intOf vi).toNat)
  case atStart => exact ⟨0, rfl, Nat.zero_le _, by rw [List.take_zero, List.flatMap_nil, List.append_nil]; exact HW4.out⟩
  case round =>
    obtain ⟨i, rfl, hi, hw⟩ := hrel
    have HW := Lib.hid hw
    clear hw HW4 HK4
    by_cases hlt : i < n
    · have hil : i < ms.length := by have := HN.out; omega
      obtain ⟨m, hm⟩ : ∃ m, ms[i]? = some m := ⟨ms[i], List.getElem?_eq_getElem hil⟩
      obtain ⟨e1, e2⟩ := flat_take (fun m : EntM => entB m.e) hm
      have hmm := List.mem_of_getElem? hm
      have hll := HL.out
      rw [e1] at hll
      simp only [List.length_append] at hll
      have HLL : Hid ((x5 ++ (ms.take i).flatMap (fun m => entB m.e)).length + (entB m.e).length ≤ 67108864) := Lib.hid (by rw [List.length_append, HX5L.out]; omega)
      have HE2 := Lib.hid e2
      have HSM := Lib.hid ((HSUB.out m hmm).kept HHK.out)
      have HKM := Lib.hid (HKD.out m hmm)
      obtain ⟨ad, rfl, c0, c1, c2, c3, c4, c5, c6⟩ := RowK.at7 (RowK.kept HROW.out (HHK.out.trans HW.out.1)) hm
      clear e1 e2 hll hil hmm
      obtain ⟨⟨key, ⟨kk, s, L, Z, H⟩, till⟩, vL, vZ, vH⟩ := m
      unfold strV at c0 c2
      simp only at c0 c1 c2 c3 c4 c5 c6
      obtain ⟨apL, capL, eL, _⟩ := HSM.out.1.parts
      obtain ⟨apZ, capZ, eZ, _⟩ := HSM.out.2.1.parts
      obtain ⟨apH, capH, eH, _⟩ := HSM.out.2.2.parts
      simp only [List.length_map] at eL eZ eH
      subst eL eZ eH
      have HKA := Lib.hid (Kept.allocd wr (.cells #[.string ⟨key.toArray⟩, .int .i64 kk, .string ⟨s.toArray⟩, .slice apL L.length capL, .slice apZ Z.length capZ, .slice apH H.length capH, .int .i64 till] 56))
      clear hm
      go_wp2_with fail
      refine (pwentry W0 _ _ ⟨⟨key, ⟨kk, s, L, Z, H⟩, till⟩, .slice apL L.length capL, .slice apZ Z.length capZ, .slice apH H.length capH⟩ (HW.out.kept HKA.out) HSM.out HKM.out HLL.out).mono ?_
      rintro e w6 ⟨⟨u, rfl⟩, hw, hwk⟩
      rw [List.append_assoc, ← HE2.out] at hw
      have HW6 := Lib.hid hw
      clear hw hwk c0 c1 c2 c3 c4 c5 c6
      go_wp2
      go_roundw
      case rel => exact ⟨i + 1, by go_num, by omega, HW6.out⟩
      case measure => simp [intOf]; omega
    · have hfin : ms.take i = ms := List.take_of_length_le (by have := HN.out; omega)
      have hw := HW.out
      rw [hfin] at hw
      have HW6 := Lib.hid hw
      clear hw hfin
      go_wp2_with fail
      go_ret
      refine ⟨W0, rfl, HHK.out, ?_⟩
      have hw := HW6.out
      rw [HX5.out] at hw
      rw [HX.out]
      exact hw
end Go.Proofs.YtfhlhpknobkplaaDoor

/- Merged: Quoted texts, by definition: no program; The number of a text, by the library's two functions; Regions that draw their order, walked by a plan: quiet operations in any listed order, then one operation that all others wait for or stand behind, and so on; Plans with operations that float past a barrier: they yield one value in every world of a class that the barrier keeps; Quoted texts: the bytes' texts, by the program and by the document; Quoted texts: 'Quote' of the program and of the document; Rows of bytes that the call itself has made; the document's 'Quote'; The document's questions about a digit of sixteen; The document's byte behind a backslash; The document's byte behind a backslash: by two digits of sixteen; The document's 'Unquote'; A reader of quoted texts: its steps; A reader of quoted texts: a digit of sixteen; A reader of quoted texts: the byte behind \x, and the byte behind a backslash; A reader of quoted texts: the byte behind a backslash; A reader of quoted texts: all bytes; 'Unquote': faults caught; strconv.FormatUint at base 10, for every uint64 (the library's shelf has FormatInt alone). -/
import Derived.Test.YtdinkdmkbfbjbaaGreatDoorShelf
import Derived.Test.YtdinkdmkbfbjbaaGreatDoorProg
import Derived.WalkKit
import Derived.WalkSpells
import Derived.KernelRfl
import Derived.Lib.Hide
import Derived.Lib.OthersKept
import Derived.Lib.AppendIntMem
import Derived.Lib.LaidTab
import Derived.Deep.QuietTactic
import Derived.StillTail
import Derived.OrdersIn
import Derived.Test.YtdinkdmkbfbjbaaGreatDoorZBd
import Derived.BigQuiet
import Derived.RegionTactic
import Derived.ChangeAlike
import Derived.BigRegion
import Derived.WalkLawsBesides
import Derived.Outline
import Derived.Laws.Concat
import Derived.Defers
import Derived.Recover
set_option linter.all false
namespace Go.Proofs.YtdinkdmkbfbjbaaGreatDoor

abbrev Bs := List UInt8

/-- A digit of sixteen. -/
def hx (n : Nat) : UInt8 := if n < 10 then UInt8.ofNat (48 + n) else UInt8.ofNat (87 + n)
def hexd : Bs := [48, 49, 50, 51, 52, 53, 54, 55, 56, 57, 97, 98, 99, 100, 101, 102]
def dval (c : UInt8) : Nat := hexd.idxOf c

/-- Is a byte written as \x? -/
def special (c : Nat) : Bool := (decide (c < 32) || decide (126 < c)) && c != 13 && c != 10 && c != 9

/-- A byte within a quoted text. -/
def quotedC (c : UInt8) : Bs :=
  if c = 13 then [92, 114] else if c = 10 then [92, 110] else if c = 9 then [92, 116] else if c = 34 then [92, 34] else if c = 92 then [92, 92]
  else if c.toNat < 32 ∨ 126 < c.toNat then [92, 120, hx (c.toNat / 16), hx (c.toNat % 16)] else [c]

def quoteA (b : Bs) : Bs := (b.map quotedC).flatten
def quote (b : Bs) : Bs := 34 :: (quoteA b ++ [34])

theorem quotedC_len (c : UInt8) : 1 ≤ (quotedC c).length ∧ (quotedC c).length ≤ 4 := by
  unfold quotedC; repeat' split
  all_goals simp
theorem quoteA_len (b : Bs) : b.length ≤ (quoteA b).length ∧ (quoteA b).length ≤ 4 * b.length := by
  induction b with
  | nil => simp [quoteA]
  | cons c b ih =>
    have := quotedC_len c
    simp only [quoteA, List.map_cons, List.flatten_cons, List.length_append, List.length_cons] at ih ⊢
    omega
theorem quoteA_snoc (b : Bs) (c : UInt8) : quoteA (b ++ [c]) = quoteA b ++ quotedC c := by simp [quoteA]

def al1 : Bs := [48, 49, 55, 56, 57, 97, 98, 99, 100, 101, 102]
def al2 (h : Nat) : Bs := if h = 0 then [48, 49, 50, 51, 52, 53, 54, 55, 56, 98, 99, 101, 102] else if h = 7 then [102] else hexd

/-- What stands behind \x: the byte and how many bytes are told; or how many are right. -/
def hexS : Bs → Except Nat (UInt8 × Nat)
  | [] => .error 1
  | a :: r => if a ∈ al1 then (match r with | [] => .error 2 | b :: _ => if b ∈ al2 (dval a) then .ok (UInt8.ofNat (dval a * 16 + dval b), 3) else .error 2) else .error 1

/-- What stands behind a backslash. -/
def escS : Bs → Except Nat (UInt8 × Nat)
  | [] => .error 0
  | c :: r => if c = 114 then .ok (13, 1) else if c = 110 then .ok (10, 1) else if c = 116 then .ok (9, 1) else if c = 34 ∨ c = 92 then .ok (c, 1)
    else if c = 120 then hexS r else .error 0

/-- The bytes of a quoted text, behind i of its bytes; or where it is none. -/
def unqA (i : Nat) (b : Bs) (s : Bs) : Except Nat Bs :=
  match s with
  | [] => .error i
  | c :: r =>
    if c = 34 then (if r = [] then .ok b else .error (i + 1))
    else if c.toNat < 32 ∨ 126 < c.toNat then .error i
    else if c ≠ 92 then unqA (i + 1) (b ++ [c]) r
    else match escS r with
      | .error n => .error (i + 1 + n)
      | .ok (x, n) => unqA (i + 1 + n) (b ++ [x]) (r.drop n)
termination_by s.length
decreasing_by all_goals (simp only [List.length_drop, List.length_cons]; omega)

def unq (s : Bs) : Except Nat Bs :=
  match s with
  | [] => .error 0
  | c :: r => if c = 34 then unqA 1 [] r else .error 0

theorem u8_all {p : UInt8 → Bool} (h : (List.range 256).all (fun n => p (UInt8.ofNat n)) = true) (c : UInt8) : p c = true := by
  have := List.all_eq_true.1 h c.toNat (List.mem_range.2 c.toNat_lt)
  simpa using this

def hexBack (c : UInt8) : Bool := !(special c.toNat) || (decide (hx (c.toNat / 16) ∈ al1) && dval (hx (c.toNat / 16)) == c.toNat / 16 && decide (hx (c.toNat % 16) ∈ al2 (c.toNat / 16)) && dval (hx (c.toNat % 16)) == c.toNat % 16)
theorem hexBack_all (c : UInt8) : hexBack c = true := u8_all (by decide +kernel) c

theorem special_of {c : UInt8} (h : c.toNat < 32 ∨ 126 < c.toNat) (h1 : c ≠ 13) (h2 : c ≠ 10) (h3 : c ≠ 9) : special c.toNat = true := by
  have k1 : c.toNat ≠ 13 := fun e => h1 (UInt8.toNat_inj.1 e)
  have k2 : c.toNat ≠ 10 := fun e => h2 (UInt8.toNat_inj.1 e)
  have k3 : c.toNat ≠ 9 := fun e => h3 (UInt8.toNat_inj.1 e)
  simp [special, k1, k2, k3, h]

theorem hexS_back {c : UInt8} (h : special c.toNat = true) (r : Bs) : hexS (hx (c.toNat / 16) :: hx (c.toNat % 16) :: r) = .ok (c, 3) := by
  have := hexBack_all c
  unfold hexBack at this
  rw [h] at this
  simp only [Bool.not_true, Bool.false_or, Bool.and_eq_true, decide_eq_true_eq, beq_iff_eq] at this
  obtain ⟨⟨⟨h1, h2⟩, h3⟩, h4⟩ := this
  unfold hexS
  simp only
  rw [if_pos h1, h2]
  rw [if_pos h3, h4]
  have : c.toNat / 16 * 16 + c.toNat % 16 = c.toNat := by omega
  rw [this]
  simp

/-- A byte's text is read as it. -/
theorem unqA_quoted (i : Nat) (xs : Bs) (c : UInt8) (r : Bs) : unqA i xs (quotedC c ++ r) = unqA (i + (quotedC c).length) (xs ++ [c]) r := by
  unfold quotedC
  by_cases h1 : c = 13
  · subst h1; rw [if_pos rfl, unqA.eq_def]; simp [escS]
  by_cases h2 : c = 10
  · subst h2; rw [if_neg h1, if_pos rfl, unqA.eq_def]; simp [escS]
  by_cases h3 : c = 9
  · subst h3; rw [if_neg h1, if_neg h2, if_pos rfl, unqA.eq_def]; simp [escS]
  by_cases h4 : c = 34
  · subst h4; rw [if_neg h1, if_neg h2, if_neg h3, if_pos rfl, unqA.eq_def]; simp [escS]
  by_cases h5 : c = 92
  · subst h5; rw [if_neg h1, if_neg h2, if_neg h3, if_neg h4, if_pos rfl, unqA.eq_def]; simp [escS]
  rw [if_neg h1, if_neg h2, if_neg h3, if_neg h4, if_neg h5]
  by_cases h6 : c.toNat < 32 ∨ 126 < c.toNat
  · rw [if_pos h6]
    have hb := hexS_back (special_of h6 h1 h2 h3) r
    rw [unqA.eq_def]
    simp only [List.cons_append, List.nil_append, List.length_cons, List.length_nil]
    have he : escS (120 :: hx (c.toNat / 16) :: hx (c.toNat % 16) :: r) = .ok (c, 3) := by unfold escS; simp [hb]
    rw [if_neg (by decide), if_neg (by decide), if_neg (by decide), he]
    simp
  · rw [if_neg h6]
    rw [List.singleton_append, unqA.eq_def]
    simp only
    rw [if_neg h4, if_neg h6, if_pos h5]
    simp

theorem unqA_quoteA (b : Bs) : ∀ (i : Nat) (xs : Bs), unqA i xs (quoteA b ++ [34]) = .ok (xs ++ b) := by
  induction b with
  | nil => intro i xs; rw [unqA.eq_def]; simp [quoteA]
  | cons c b ih =>
    intro i xs
    have e : quoteA (c :: b) ++ [34] = quotedC c ++ (quoteA b ++ [34]) := by simp [quoteA]
    rw [e, unqA_quoted, ih]
    simp

/-- There and back. -/
theorem unq_quote (b : Bs) : unq (quote b) = .ok b := by
  unfold unq quote
  simp only [if_true]
  rw [unqA_quoteA]
  rfl

/-! ### The document's question: may these digits stand behind \x? -/

def may1 (a : UInt8) : Bool := (List.range 256).any fun c => special c && hx (c / 16) == a
def may2 (a b : UInt8) : Bool := (List.range 256).any fun c => special c && hx (c / 16) == a && hx (c % 16) == b

theorem may1_eq (a : UInt8) : may1 a = decide (a ∈ al1) := by
  have h := u8_all (p := fun a => may1 a == decide (a ∈ al1)) (by decide +kernel) a
  simpa using h

theorem may2_to : ((List.range 256).all fun c => !(special c) || (decide (hx (c / 16) ∈ al1) && decide (hx (c % 16) ∈ al2 (dval (hx (c / 16)))))) = true := by decide +kernel
theorem may2_of : (al1.all fun a => (al2 (dval a)).all fun b => special (dval a * 16 + dval b) && hx ((dval a * 16 + dval b) / 16) == a && hx ((dval a * 16 + dval b) % 16) == b && decide (dval a * 16 + dval b < 256)) = true := by decide +kernel

theorem may2_eq (a b : UInt8) (ha : a ∈ al1) : may2 a b = decide (b ∈ al2 (dval a)) := by
  rw [Bool.eq_iff_iff, decide_eq_true_eq]
  constructor
  · intro h
    obtain ⟨c, hc, h⟩ := List.any_eq_true.1 h
    simp only [Bool.and_eq_true, beq_iff_eq] at h
    obtain ⟨⟨h1, rfl⟩, rfl⟩ := h
    have := List.all_eq_true.1 may2_to c hc
    rw [h1] at this
    simp only [Bool.not_true, Bool.false_or, Bool.and_eq_true, decide_eq_true_eq] at this
    exact this.2
  · intro h
    have := List.all_eq_true.1 (List.all_eq_true.1 may2_of a ha) b h
    simp only [Bool.and_eq_true, beq_iff_eq, decide_eq_true_eq] at this
    obtain ⟨⟨⟨h1, h2⟩, h3⟩, h4⟩ := this
    exact List.any_eq_true.2 ⟨_, List.mem_range.2 h4, by rw [h1, h2, h3]; simp⟩

theorem al1_hex : (al1.all fun a => decide (a ∈ hexd)) = true := by decide
theorem al2_hex (h : Nat) : ∀ b ∈ al2 h, b ∈ hexd := by
  intro b hb
  unfold al2 at hb
  split at hb
  · revert b; decide
  · split at hb
    · revert b; decide
    · exact hb
end Go.Proofs.YtdinkdmkbfbjbaaGreatDoor
namespace Go.Proofs.YtdinkdmkbfbjbaaGreatDoor
open Go.RowKit

theorem var_below {P : Program} {w w' : World} {n : String} {cs : Array Value} (h : w.var? P n = some cs) (hb : Below w.heap.size w w') : w'.var? P n = some cs := by
  unfold World.var? at *
  cases hg : P.globalNamed n with
  | none => simp [hg] at h
  | some g =>
    simp only [hg, Option.bind_some] at h ⊢
    have hlt : g < w.heap.size := by
      rcases Nat.lt_or_ge g w.heap.size with h' | h'
      · exact h'
      · rw [Array.getElem?_eq_none h'] at h; simp at h
    rw [hb.block g hlt]
    exact h

/-- What the library reads: its table, and what its two errors are. -/
structure Vs (w : World) : Prop where
  tab : Lib.TabIs Tryz.prog w "internal/strconv.uint64pow10" .u64 Lib.pow10Tab
  syn : ∃ tp p, w.var? Tryz.prog "strconv.ErrSyntax" = some #[.iface tp p]
  ran : ∃ tp p, w.var? Tryz.prog "strconv.ErrRange" = some #[.iface tp p]

theorem Vs.below {w w' : World} (h : Vs w) (hb : Below w.heap.size w w') : Vs w' := by
  obtain ⟨tp, p, h1⟩ := h.syn
  obtain ⟨tq, q, h2⟩ := h.ran
  exact ⟨(Lib.tabBelow_of_tabIs h.tab) w' hb, ⟨tp, p, var_below h1 hb⟩, ⟨tq, q, var_below h2 hb⟩⟩

theorem nformat (n : Int) (h0 : -9223372036854775808 ≤ n) (h1 : n ≤ 9223372036854775807) (w : World) (hV : Vs w) :
    Calls Tryz.prog 55 #[.int .i64 n, .int .i64 10] w fun e w' => e = .returned (.string ⟨(Lib.itoa n).toArray⟩) ∧ Below w.heap.size w w' := by
  refine (Tryz.strconv_FormatInt_10 n h0 h1 w hV.tab).mono ?_
  rintro e w' ⟨rfl, k, os, rfl⟩
  exact ⟨rfl, Lib.below_grow _ _ (Nat.le_refl _) _ _⟩

def In64 (i : Int) : Prop := -9223372036854775808 ≤ i ∧ i ≤ 9223372036854775807

/-- strconv.ParseInt(s, 10, 64): a number and no error, or an error. -/
theorem nparseInt (s : ByteArray) (hs : s.size ≤ 1000000) (w : World) (hV : Vs w) :
    Calls Tryz.prog 54 #[.string s, .int .i64 10, .int .i64 64] w fun e w' => ∃ v ev, e = .returned (.tuple #[.int .i64 v, ev]) ∧ Below w.heap.size w w' ∧
      ((ev = .nilIface ∧ Lib.parseIntB 64 s.data.toList = .ok v) ∨ ((∃ t p, ev = .iface t p) ∧ ∀ u, Lib.parseIntB 64 s.data.toList ≠ .ok u)) := by
  cases h : Lib.parseIntB 64 s.data.toList with
  | ok v =>
    refine (Tryz.strconv_ParseInt_10_at64_ok s (by omega) v h w).mono ?_
    rintro e w' ⟨rfl, hw⟩
    refine ⟨v, .nilIface, rfl, ?_, .inl ⟨rfl, rfl⟩⟩
    rcases hw with rfl | ⟨t, rfl⟩
    · exact Below.refl _ _
    · exact Lib.bytesWorld_below _ _ _
  | «syntax» =>
    obtain ⟨tp, p, hv⟩ := hV.syn
    refine (Tryz.strconv_ParseInt_10_at64_syntax_var s (by omega) h tp p w hv).mono ?_
    rintro e w' ⟨N, rfl, _, _, hb⟩
    exact ⟨_, _, rfl, hb, .inr ⟨⟨_, _, rfl⟩, fun u h => by cases h⟩⟩
  | range =>
    obtain ⟨tp, p, hv⟩ := hV.ran
    refine (Tryz.strconv_ParseInt_10_at64_range_var s (by omega) h tp p w hv).mono ?_
    rintro e w' ⟨N, rfl, _, _, hb⟩
    exact ⟨_, _, rfl, hb, .inr ⟨⟨_, _, rfl⟩, fun u h => by cases h⟩⟩

/-- All digits, or a '-' ahead of them. -/
def okAt (i : Nat) (c : UInt8) : Bool := (decide (48 ≤ c.toNat) && decide (c.toNat ≤ 57)) || (c.toNat == 45 && i == 0)
def okUpto (l : List UInt8) (k : Nat) : Prop := ∀ i c, i < k → l[i]? = some c → okAt i c = true

open Classical in
noncomputable def parseV (l : List UInt8) : Int × Int :=
  if okUpto l l.length then (match Lib.parseIntB 64 l with | .ok v => if Lib.itoa v = l then (v, 0) else (0, 10) | _ => (0, 10)) else (0, 10)

theorem decode_big (s : ByteArray) (i : Nat) (h : i < s.size) (hb : 128 ≤ (s[i]'h).toNat) : 128 ≤ (Utf8.decode s i).1 := by
  have e : s.get! i = s[i]'h := by
    simp only [ByteArray.get!]
    rw [getElem!_pos s.data i h]
    rfl
  unfold Utf8.decode
  simp only [Nat.add_zero, e]
  rw [if_neg (by omega)]
  repeat' split
  all_goals (first | (simp only [Utf8.runeError]; omega) | (simp only; omega) | (rename_i hh; simp only [Bool.and_eq_true, decide_eq_true_eq] at hh; simp only; omega))
end Go.Proofs.YtdinkdmkbfbjbaaGreatDoor
namespace Go.Proofs.YtdinkdmkbfbjbaaGreatDoor
section
variable {P : Program} {ops : Array Oper} {md : Region.Mode} {C : World → Prop}

/-- Whatever order is picked while the quiet operations of H come up. -/
def wpAnyH (P : Program) (md : Region.Mode) (ops : Array Oper) (C : World → Prop) (H : List Nat) (L : Array Bool → Act → Prop) : Nat → Array Bool → Act → Prop
  | 0, listed, a => L listed a
  | f + 1, listed, a =>
    Region.ready md ops listed ≠ [] ∧ ∀ i ∈ Region.ready md ops listed, i ∈ H ∧ qOp P ops C i (wpAnyH P md ops C H L f (listed.setIfInBounds i true)) a

structure HInv (md : Region.Mode) (ops : Array Oper) (H : List Nat) (R : Nat → Bool) (listed : Array Bool) : Prop where
  cover : ∀ t, t < ops.size → listed.getD t true = false → t ∈ H ∨ R t = true
  closed : ∀ j oj, ops[j]? = some oj → listed.getD j false = true → ∀ e ∈ oj.after, Region.binds md e = true → listed.getD e.on false = true
  rest : ∀ t, t < ops.size → R t = true → listed.getD t true = false

theorem HInv.set {H : List Nat} {R : Nat → Bool} {i : Nat} {listed : Array Bool} (inv : HInv md ops H R listed) (hi : i ∈ Region.ready md ops listed) (hR : R i = false) : HInv md ops H R (listed.setIfInBounds i true) := by
  obtain ⟨_, oi, hoi, hall⟩ := mem_ready.1 hi
  refine ⟨fun t ht hl => ?_, fun j oj hj hl e he hb => ?_, fun t ht hRt => ?_⟩
  · by_cases hit : i = t
    · subst hit
      exact inv.cover i ht (mem_ready.1 hi).1
    · rw [getD_set_ne true hit] at hl
      exact inv.cover t ht hl
  · by_cases hij : i = j
    · subst hij
      have : oj = oi := Option.some.inj (hj.symm.trans hoi)
      subst this
      exact getD_set_true (hall e he hb)
    · rw [getD_set_ne false hij] at hl
      exact getD_set_true (inv.closed j oj hj hl e he hb)
  · have hne : i ≠ t := fun e => by subst e; rw [hR] at hRt; cases hRt
    rw [getD_set_ne true hne]; exact inv.rest t ht hRt

theorem HInv.ready {H : List Nat} {R : Nat → Bool} {j : Nat} {listed : Array Bool} (inv : HInv md ops H R listed) (hj : j ∈ Region.ready md ops listed) : j ∈ H ∨ R j = true := by
  obtain ⟨h0, o, ho, _⟩ := mem_ready.1 hj
  exact inv.cover j (Array.getElem?_eq_some_iff.1 ho).1 h0

def sinkChain (md : Region.Mode) (ops : Array Oper) (b : Nat) : List Nat → Bool
  | [] => true
  | i :: H => (Region.waitsFor md ops b i || H.any fun j => Region.waitsFor md ops j i) && sinkChain md ops b H

def sinkRest (md : Region.Mode) (ops : Array Oper) (R : Nat → Bool) (b : Nat) : Bool :=
  (List.range ops.size).all fun t => !R t || t == b || (List.range ops.size).any fun j => R j && Region.waitsFor md ops t j

theorem chain_waits {H0 : List Nat} {R : Nat → Bool} {b : Nat} {listed : Array Bool} (inv : HInv md ops H0 R listed) : ∀ (H : List Nat), sinkChain md ops b H = true →
    (∃ i ∈ H, listed.getD i false = false) → b ∉ Region.ready md ops listed
  | [], _, h => by obtain ⟨i, hi, _⟩ := h; cases hi
  | i :: H, hc, h => by
    simp only [sinkChain, Bool.and_eq_true, Bool.or_eq_true] at hc
    by_cases hH : ∃ j ∈ H, listed.getD j false = false
    · exact chain_waits inv H hc.2 hH
    · obtain ⟨k, hk, hun⟩ := h
      have hki : k = i := by
        rcases List.mem_cons.1 hk with h1 | h1
        · exact h1
        · exact absurd ⟨k, h1, hun⟩ hH
      subst hki
      intro hr
      obtain ⟨_, ob, hob, hall⟩ := mem_ready.1 hr
      rcases hc.1 with h1 | h1
      · obtain ⟨o', ho', e, he, hb, hon⟩ := Region.waitsFor_spec h1
        have : o' = ob := Option.some.inj (ho'.symm.trans hob)
        subst this
        have h2 := hall e he hb
        rw [hon, hun] at h2
        cases h2
      · obtain ⟨j, hj, h2⟩ := List.any_eq_true.1 h1
        obtain ⟨oj, hoj, e, he, hb, hon⟩ := Region.waitsFor_spec h2
        have hlj : listed.getD j false = true := by
          cases hl : listed.getD j false with
          | true => rfl
          | false => exact absurd ⟨j, hj, hl⟩ hH
        have h3 := inv.closed j oj hoj hlj e he hb
        rw [hon, hun] at h3
        cases h3

theorem rest_waits {R : Nat → Bool} {H : List Nat} {b : Nat} {listed : Array Bool} (inv : HInv md ops H R listed) (hc : sinkChain md ops b H = true) (hs : sinkRest md ops R b = true)
    (h : ∃ i ∈ H, listed.getD i false = false) {t : Nat} (hR : R t = true) : t ∉ Region.ready md ops listed := by
  intro hr
  obtain ⟨_, ot, hot, hall⟩ := mem_ready.1 hr
  have htlt : t < ops.size := (Array.getElem?_eq_some_iff.1 hot).1
  have h1 := List.all_eq_true.1 hs t (List.mem_range.2 htlt)
  simp only [hR, Bool.not_true, Bool.false_or, Bool.or_eq_true, beq_iff_eq] at h1
  rcases h1 with h1 | h1
  · subst h1; exact chain_waits inv H hc h hr
  · obtain ⟨j, hj, h2⟩ := List.any_eq_true.1 h1
    simp only [Bool.and_eq_true] at h2
    obtain ⟨o', ho', e, he, hb, hon⟩ := Region.waitsFor_spec h2.2
    have : o' = ot := Option.some.inj (ho'.symm.trans hot)
    subst this
    have h3 := hall e he hb
    rw [hon, getD_both (inv.rest j (List.mem_range.1 hj) h2.1)] at h3
    cases h3

theorem wpAnyH_first {R : Nat → Bool} {H : List Nat} {b i : Nat} {oi : Oper} {v : Value} {L : Array Bool → Act → Prop} (hi : ops[i]? = some oi)
    (hsel : ∀ (j : Nat) (o : Oper) cs b, ops[j]? = some o → o.op ≠ .select cs b)
    (hc : sinkChain md ops b H = true) (hs : sinkRest md ops R b = true)
    (hin : i ∈ H) (hHR : ∀ j ∈ H, R j = false)
    (hdone : ∀ listed a, L listed a → ∀ j ∈ Region.ready md ops listed, j ∉ H) :
    ∀ (f : Nat) (listed : Array Bool) (a : Act), HInv md ops H R listed →
      (∀ j oj, ops[j]? = some oj → j ≠ i → listed.getD j true = false → (∀ e ∈ oj.after, Region.binds md e = true → e.on ≠ i) → oi.apart ops oj = true) →
      i ∈ Region.ready md ops listed → YieldsIn P ops C oi v a →
      wpAnyH P md ops C H L f (listed.setIfInBounds i true) (a.put oi.dst v) → wpAnyH P md ops C H L (f + 1) listed a := by
  intro f
  induction f with
  | zero =>
    intro listed a inv _ hr hy HH
    have hun := (mem_ready.1 hr).1
    refine ⟨fun h => (by rw [h] at hr; cases hr), fun j hj => ?_⟩
    have hjn : j ∈ H := by
      rcases inv.ready hj with h | h
      · exact h
      · exact absurd hj (rest_waits inv hc hs ⟨i, hin, getD_both hun⟩ h)
    refine ⟨hjn, ?_⟩
    by_cases hji : j = i
    · subst hji; exact hy.qOp hi HH
    · exact absurd hjn (hdone _ _ HH j (ready_mono hj hji))
  | succ f ih =>
    intro listed a inv hfree hr hy HH
    have hun := (mem_ready.1 hr).1
    refine ⟨fun h => (by rw [h] at hr; cases hr), fun j hj => ?_⟩
    have hjn : j ∈ H := by
      rcases inv.ready hj with h | h
      · exact h
      · exact absurd hj (rest_waits inv hc hs ⟨i, hin, getD_both hun⟩ h)
    refine ⟨hjn, ?_⟩
    by_cases hji : j = i
    · subst hji; exact hy.qOp hi HH
    · have h1 := (HH.2 j (ready_mono hj hji)).2
      obtain ⟨hjun, oj, hoj, hall⟩ := mem_ready.1 hj
      have hnot : ∀ e ∈ oj.after, Region.binds md e = true → e.on ≠ i := fun e he hb heq => by
        have h1 := hall e he hb
        rw [heq, getD_both hun] at h1
        cases h1
      have h2 := qOp_put hoj (hfree j oj hoj hji hjun hnot) (fun cs b => hsel i oi cs b hi) (fun cs b => hsel j oj cs b hoj) hy h1
      have hfree' : ∀ k ok, ops[k]? = some ok → k ≠ i → (listed.setIfInBounds j true).getD k true = false →
          (∀ e ∈ ok.after, Region.binds md e = true → e.on ≠ i) → oi.apart ops ok = true := fun k ok hk hki hun hno => by
        refine hfree k ok hk hki ?_ hno
        by_cases hjk : j = k
        · subst hjk; exact hjun
        · rw [getD_set_ne true hjk] at hun; exact hun
      refine qOp_mono (fun a' h3 => ih (listed.setIfInBounds j true) a' (inv.set hj (hHR j hjn)) hfree' (ready_mono hr (Ne.symm hji)) h3.1 ?_) h2
      rw [Array.setIfInBounds_comm _ _ hji]
      exact h3.2

/-- The quiet operations, one by one, in the plan's order. -/
def headB (md : Region.Mode) (ops : Array Oper) : List Nat → Array Bool → Bool
  | [], _ => true
  | i :: H, listed => (Region.ready md ops listed).contains i && Region.free md ops listed i && headB md ops H (listed.setIfInBounds i true)

def marks : List Nat → Array Bool → Array Bool
  | [], listed => listed
  | i :: H, listed => marks H (listed.setIfInBounds i true)

def pick (l : List Oper) (H : List Nat) : List Oper := H.filterMap fun i => l[i]?

theorem wpAnyH_list {R : Nat → Bool} {H : List Nat} {b : Nat} {Lq : Act → Prop} {M : Array Bool → Prop} (hsel : Region.noSelect ops = true)
    (hc : sinkChain md ops b H = true) (hs : sinkRest md ops R b = true) (hHR : ∀ j ∈ H, R j = false)
    (hM : ∀ listed, M listed → ∀ j ∈ Region.ready md ops listed, j ∉ H) :
    ∀ (H' : List Nat) (listed : Array Bool) (a : Act), (∀ j ∈ H', j ∈ H) → HInv md ops H R listed → headB md ops H' listed = true → M (marks H' listed) →
      wpQuiet P ops C Lq (pick ops.toList H') a → wpAnyH P md ops C H (fun listed' a' => M listed' ∧ Lq a') H'.length listed a
  | [], listed, a, _, inv, _, hm, h => ⟨hm, h⟩
  | i :: H', listed, a, hH', inv, hB, hm, h => by
    simp only [headB, Bool.and_eq_true] at hB
    obtain ⟨⟨hr, hf⟩, hB'⟩ := hB
    have hr' : i ∈ Region.ready md ops listed := by simpa using hr
    obtain ⟨_, oi, hoi, _⟩ := mem_ready.1 hr'
    have hp : pick ops.toList (i :: H') = oi :: pick ops.toList H' := by
      simp [pick, hoi]
    rw [hp] at h
    have hst : qOp P ops C i (wpQuiet P ops C Lq (pick ops.toList H')) a := by unfold qOp; simp only [hoi]; exact h
    obtain ⟨v, hy, hK⟩ := yieldsIn_of_qOp hoi hst
    exact wpAnyH_first (R := R) hoi (Region.noSelect_spec hsel) hc hs (hH' i (by simp)) hHR (fun listed' a' hL => hM _ hL.1)
      H'.length listed a inv (Region.free_spec hoi hf) hr' hy
      (wpAnyH_list hsel hc hs hHR hM H' _ _ (fun j hj => hH' j (List.mem_cons_of_mem _ hj)) (inv.set hr' (hHR i (hH' i (by simp)))) hB' hm hK)

theorem wpAny_of_headH {H : List Nat} {g : Nat} {L : Array Bool → Act → Prop} {Q' : Exit → Act → World → Prop} (hL : ∀ listed a w, C w → L listed a → wpAny P md ops Q' g listed a w) :
    ∀ (f : Nat) (listed : Array Bool) (a : Act) (w : World), C w → wpAnyH P md ops C H L f listed a → wpAny P md ops Q' (f + g) listed a w
  | 0, listed, a, w, hw, h => by rw [Nat.zero_add]; exact hL _ _ _ hw h
  | f + 1, listed, a, w, hw, h => by
    rw [show f + 1 + g = (f + g) + 1 by omega]
    exact ⟨fun h0 => absurd h0 h.1, fun i hi => wpOp_of_qOp hw (fun a' w' hw' h' => wpAny_of_headH hL f _ a' w' hw' h') (h.2 i hi).2⟩

theorem wpAnyIn_of_headH {n : Nat} {H : List Nat} {g : Nat} {L : Array Bool → Act → Prop} {Q' : Exit → Act → World → Prop} (hL : ∀ listed a w, C w → L listed a → wpAnyIn Fence.wide n P md ops Q' g listed a w) :
    ∀ (f : Nat) (listed : Array Bool) (a : Act) (w : World), C w → wpAnyH P md ops C H L f listed a → wpAnyIn Fence.wide n P md ops Q' (f + g) listed a w
  | 0, listed, a, w, hw, h => by rw [Nat.zero_add]; exact hL _ _ _ hw h
  | f + 1, listed, a, w, hw, h => by
    rw [show f + 1 + g = (f + g) + 1 by omega]
    refine ⟨fun h0 => absurd h0 h.1, fun i hi => ?_⟩
    have hq := (h.2 i hi).2
    unfold qOp at hq
    unfold wpOpIn
    split
    · rename_i ho; simp only [ho] at hq; exact wpAnyIn_of_headH hL f _ _ w hw hq
    · rename_i o ho
      simp only [ho] at hq
      split
      · rename_i hwa
        simp only [hwa, if_true] at hq
        obtain ⟨v, h1, h2⟩ := hq
        have h3 := h1 w hw
        unfold Oper.quietAt at h3
        refine ⟨fun _ _ => trivial, ?_⟩
        rw [show Fence.wide.round = none from rfl, Oper.semAt_none]
        generalize (execOp a.eval o).run P w = r at *
        cases r with
        | ok x w' =>
          cases x <;> simp only [Oper.quietUpon] at h3 <;> simp only [Oper.uponIn]
          case value u =>
            obtain ⟨e1, e2⟩ := h3
            rw [e1, e2]
            exact wpAnyIn_of_headH hL f _ _ w hw h2
          case skip =>
            obtain ⟨e1, e2⟩ := h3
            rw [e1, ← e2]
            exact wpAnyIn_of_headH hL f _ _ w hw h2
          case enter fn args =>
            obtain ⟨e1, hcalls⟩ := h3
            rw [e1]
            refine ⟨fun h => by simp [Fence.wide] at h, callsIn_wide.2 (hcalls.mono fun e w'' ⟨he, hw''⟩ => ?_)⟩
            subst he
            exact wpAnyIn_of_headH hL f _ _ w'' hw'' h2
        | halt x w' => simp only [Oper.quietUpon] at h3
      · rename_i hwa
        simp only [hwa] at hq
        exact ⟨fun _ _ => trivial, wpAnyIn_of_headH hL f _ _ w hw hq⟩

theorem wpAnyIn_of_quiet {n : Nat} {Q : Act → Prop} {Q' : Exit → Act → World → Prop} (hQ : ∀ a w, C w → Q a → Q' .normal a w) : ∀ (f : Nat) (listed : Array Bool) (a : Act) (w : World), C w →
    wpAnyQ P md ops C Q f listed a → wpAnyIn Fence.wide n P md ops Q' f listed a w
  | 0, _, _, _, hw, h => ⟨h.1, hQ _ _ hw h.2⟩
  | f + 1, listed, a, w, hw, h => by
    refine ⟨fun h0 => hQ _ _ hw (h.1 h0), fun i hi => ?_⟩
    have hq := h.2 i hi
    unfold qOp at hq
    unfold wpOpIn
    split
    · rename_i ho; simp only [ho] at hq; exact wpAnyIn_of_quiet hQ f _ _ w hw hq
    · rename_i o ho
      simp only [ho] at hq
      split
      · rename_i hwa
        simp only [hwa, if_true] at hq
        obtain ⟨v, h1, h2⟩ := hq
        have h3 := h1 w hw
        unfold Oper.quietAt at h3
        refine ⟨fun _ _ => trivial, ?_⟩
        rw [show Fence.wide.round = none from rfl, Oper.semAt_none]
        generalize (execOp a.eval o).run P w = r at *
        cases r with
        | ok x w' =>
          cases x <;> simp only [Oper.quietUpon] at h3 <;> simp only [Oper.uponIn]
          case value u =>
            obtain ⟨e1, e2⟩ := h3
            rw [e1, e2]
            exact wpAnyIn_of_quiet hQ f _ _ w hw h2
          case skip =>
            obtain ⟨e1, e2⟩ := h3
            rw [e1, ← e2]
            exact wpAnyIn_of_quiet hQ f _ _ w hw h2
          case enter fn args =>
            obtain ⟨e1, hcalls⟩ := h3
            rw [e1]
            refine ⟨fun h => by simp [Fence.wide] at h, callsIn_wide.2 (hcalls.mono fun e w'' ⟨he, hw''⟩ => ?_)⟩
            subst he
            exact wpAnyIn_of_quiet hQ f _ _ w'' hw'' h2
        | halt x w' => simp only [Oper.quietUpon] at h3
      · rename_i hwa
        simp only [hwa] at hq
        exact ⟨fun _ _ => trivial, wpAnyIn_of_quiet hQ f _ _ w hw hq⟩

/-- The plan's Bool. -/
def planB (md : Region.Mode) (ops : Array Oper) : List (List Nat × Nat) → List Nat → Array Bool → Bool
  | [], Hf, listed => headB md ops Hf listed && (Region.ready md ops (marks Hf listed)).isEmpty
  | (H, b) :: rest, Hf, listed =>
    headB md ops H listed && decide (Region.ready md ops (marks H listed) = [b]) && !H.contains b &&
    sinkChain md ops b H && sinkRest md ops (fun t => !listed.getD t true && !H.contains t) b &&
    planB md ops rest Hf ((marks H listed).setIfInBounds b true)

def planFuel : List (List Nat × Nat) → List Nat → Nat
  | [], Hf => Hf.length
  | (H, _) :: rest, Hf => H.length + (1 + planFuel rest Hf)

def planOk (ops : Array Oper) (plan : List (List Nat × Nat)) (Hf : List Nat) : Bool :=
  Region.noSelect ops && decide (planFuel plan Hf = ops.size) && planB .any ops plan Hf (Array.replicate ops.size false)

theorem headB_inv {H0 : List Nat} {R : Nat → Bool} : ∀ (H : List Nat) (listed : Array Bool), (∀ i ∈ H, R i = false) → HInv md ops H0 R listed → headB md ops H listed = true → HInv md ops H0 R (marks H listed)
  | [], _, _, inv, _ => inv
  | i :: H, listed, hR, inv, hB => by
    simp only [headB, Bool.and_eq_true] at hB
    exact headB_inv H _ (fun j hj => hR j (List.mem_cons_of_mem _ hj)) (inv.set (by simpa using hB.1.1) (hR i (by simp))) hB.2

/-- The state between two pieces of a plan: whoever is listed has those listed that it waits for. -/
def Closed (md : Region.Mode) (ops : Array Oper) (listed : Array Bool) : Prop :=
  ∀ j oj, ops[j]? = some oj → listed.getD j false = true → ∀ e ∈ oj.after, Region.binds md e = true → listed.getD e.on false = true

theorem closed_start : Closed md ops (Array.replicate ops.size false) := fun j oj _ hl => by rw [getD_replicate_false] at hl; cases hl

theorem start_inv {H : List Nat} {listed : Array Bool} (hc : Closed md ops listed) : HInv md ops H (fun t => !listed.getD t true && !H.contains t) listed :=
  ⟨fun t _ hl => by
      by_cases h : t ∈ H
      · exact .inl h
      · right; rw [hl]; simpa using h,
    hc, fun t _ hR => by simp only [Bool.and_eq_true, Bool.not_eq_true'] at hR; exact hR.1⟩

theorem closed_set {b : Nat} {listed : Array Bool} (hc : Closed md ops listed) (hb : b ∈ Region.ready md ops listed) : Closed md ops (listed.setIfInBounds b true) := fun j oj hj hl e he hbd => by
  obtain ⟨_, oi, hoi, hall⟩ := mem_ready.1 hb
  by_cases hij : b = j
  · subst hij
    have : oj = oi := Option.some.inj (hj.symm.trans hoi)
    subst this
    exact getD_set_true (hall e he hbd)
  · rw [getD_set_ne false hij] at hl
    exact getD_set_true (hc j oj hj hl e he hbd)

theorem wpAnyQ_list {Lq : Act → Prop} (hsel : Region.noSelect ops = true) : ∀ (H : List Nat) (listed : Array Bool) (a : Act), headB md ops H listed = true → Region.ready md ops (marks H listed) = [] →
    wpQuiet P ops C Lq (pick ops.toList H) a → wpAnyQ P md ops C Lq H.length listed a
  | [], listed, a, _, hm, h => ⟨hm, h⟩
  | i :: H, listed, a, hB, hm, h => by
    simp only [headB, Bool.and_eq_true] at hB
    obtain ⟨⟨hr, hf⟩, hB'⟩ := hB
    have hr' : i ∈ Region.ready md ops listed := by simpa using hr
    obtain ⟨_, oi, hoi, _⟩ := mem_ready.1 hr'
    have hp : pick ops.toList (i :: H) = oi :: pick ops.toList H := by
      simp [pick, hoi]
    rw [hp] at h
    have hst : qOp P ops C i (wpQuiet P ops C Lq (pick ops.toList H)) a := by unfold qOp; simp only [hoi]; exact h
    obtain ⟨v, hy, hK⟩ := yieldsIn_of_qOp hoi hst
    exact wpAnyQ_first hoi (Region.noSelect_spec hsel) H.length listed a (Region.free_spec hoi hf) hr' hy (wpAnyQ_list hsel H _ _ hB' hm hK)
end

section
variable {P : Program} {l : List Oper} {md : Region.Mode}

/-- Where the walk is to stand still: behind an operation of its own, ahead of the plan's next piece. -/
def Halt (p : Prop) (_ _ _ _ _ _ : Unit) : Prop := p
theorem Halt.mk {p : Prop} {a b c d e f : Unit} (h : p) : Halt p a b c d e f := h

/-- What the walk owes: quiet operations in every later world; an operation of its own by the walk's own rules. -/
def wpPlan (P : Program) (l : List Oper) (Q : Exit → Act → World → Prop) : List (List Nat × Nat) → List Nat → Act → World → Prop
  | [], [], a, w => Q .normal a w
  | [], i :: Hf, a, w => wpQuiet P l.toArray (fun w' => ∃ n, w' = w.drewN n) (fun a' => ∀ w', (∃ n, w' = w.drewN n) → Q .normal a' w') (pick l (i :: Hf)) a
  | ([], b) :: rest, Hf, a, w => wpList P l.toArray (Exit.then (fun a w => Halt (wpPlan P l Q rest Hf a w) () () () () () ()) Q) (pick l [b]) a w
  | (i :: H, b) :: rest, Hf, a, w => wpQuiet P l.toArray (fun w' => ∃ n, w' = w.drewN n)
      (fun a' => ∀ w', (∃ n, w' = w.drewN n) → wpList P l.toArray (Exit.then (fun a w => Halt (wpPlan P l Q rest Hf a w) () () () () () ()) Q) (pick l [b]) a' w') (pick l (i :: H)) a

/-- The same in the calculus of rounds: the operations of their own by 'wpIn'. -/
def wpPlanIn (n : Nat) (P : Program) (l : List Oper) (Q : Exit → Act → World → Prop) : List (List Nat × Nat) → List Nat → Act → World → Prop
  | [], [], a, w => Q .normal a w
  | [], i :: Hf, a, w => wpQuiet P l.toArray (fun w' => ∃ n, w' = w.drewN n) (fun a' => ∀ w', (∃ n, w' = w.drewN n) → Q .normal a' w') (pick l (i :: Hf)) a
  | ([], b) :: rest, Hf, a, w => wpListIn Fence.wide n P l.toArray (Exit.then (fun a w => Halt (wpPlanIn n P l Q rest Hf a w) () () () () () ()) Q) (pick l [b]) a w
  | (i :: H, b) :: rest, Hf, a, w => wpQuiet P l.toArray (fun w' => ∃ n, w' = w.drewN n)
      (fun a' => ∀ w', (∃ n, w' = w.drewN n) → wpListIn Fence.wide n P l.toArray (Exit.then (fun a w => Halt (wpPlanIn n P l Q rest Hf a w) () () () () () ()) Q) (pick l [b]) a' w') (pick l (i :: H)) a

theorem wpList_pick {ops : Array Oper} {b : Nat} {o : Oper} {Q : Exit → Act → World → Prop} {K : Act → World → Prop} {a : Act} {w : World} (ho : ops[b]? = some o)
    (h : wpList P ops (Exit.then K Q) [o] a w) : wpOp P ops Q b K a w := by
  unfold wpOp
  simp only [ho]
  unfold wpList at h
  split
  · rename_i hw
    rw [if_pos hw] at h
    rcases h with h | ⟨h1, a0, w0, h2⟩
    · left
      unfold Oper.wp at *
      generalize (execOp a.eval o).run P w = r at *
      cases r with
      | ok x w' =>
        cases x <;> simp only [Oper.upon] at h ⊢ <;>
          first
            | exact h
            | exact Calls.mono h (fun e w'' he => by cases e <;> first | exact he | (obtain ⟨a0, w0, h2⟩ := he; exact ⟨a0, w0, h2⟩))
            | exact Rows.mono h (fun _ _ he => he)
      | halt x w' => cases x <;> simp only [Oper.upon] at h ⊢ <;> exact h
    · exact .inr ⟨h1, a0, w0, h2⟩
  · rename_i hw
    rw [if_neg hw] at h
    exact h

theorem wpListIn_pick {n : Nat} {ops : Array Oper} {b : Nat} {o : Oper} {Q : Exit → Act → World → Prop} {K : Act → World → Prop} {a : Act} {w : World} (ho : ops[b]? = some o)
    (h : wpListIn Fence.wide n P ops (Exit.then K Q) [o] a w) : wpOpIn Fence.wide n P ops Q b K a w := by
  unfold wpOpIn
  simp only [ho]
  unfold wpListIn at h
  split
  · rename_i hw
    rw [if_pos hw] at h
    unfold Oper.wpIn at *
    refine ⟨h.1, ?_⟩
    have h := h.2
    generalize (o.semAt Fence.wide.round a.eval).run P w = r at *
    cases r with
    | ok x w' =>
      cases x <;> simp only [Oper.uponIn] at h ⊢ <;>
        first
          | exact h
          | exact ⟨h.1, CallsIn.mono h.2 (fun e w'' he => by cases e <;> first | exact he | (obtain ⟨a0, w0, h2⟩ := he; exact ⟨a0, w0, h2⟩))⟩
          | exact ⟨h.1, RowsIn.mono h.2 (fun _ _ he => he)⟩
          | exact ⟨h.1, RoundIn.mono h.2 (fun e w'' he => by cases e <;> first | exact he | (obtain ⟨a0, w0, h2⟩ := he; exact ⟨a0, w0, h2⟩))⟩
    | halt x w' => cases x <;> simp only [Oper.uponIn] at h ⊢ <;> exact h
  · rename_i hw
    rw [if_neg hw] at h
    exact h

theorem pick_one {b : Nat} {o : Oper} (h : l[b]? = some o) : pick l [b] = [o] := by simp [pick, h]

theorem not_mem_of_ready {ops : Array Oper} {H : List Nat} {b : Nat} {listed : Array Bool} (hr : Region.ready md ops listed = [b]) (hb : b ∉ H) : ∀ j ∈ Region.ready md ops listed, j ∉ H := by
  intro j hj hH
  rw [hr] at hj
  have : j = b := by simpa using hj
  subst this
  exact hb hH

/-- A piece of a plan: the quiet ones, then the one that they and all others lead to. -/
theorem head_then {C : World → Prop} {ops : Array Oper} {H : List Nat} {b : Nat} {listed : Array Bool} {a : Act} {Lq : Act → Prop} (hsel : Region.noSelect ops = true)
    (hcl : Closed md ops listed) (hB : headB md ops H listed = true) (hr : Region.ready md ops (marks H listed) = [b]) (hbH : b ∉ H)
    (hc : sinkChain md ops b H = true) (hs : sinkRest md ops (fun t => !listed.getD t true && !H.contains t) b = true)
    (h : wpQuiet P ops C Lq (pick ops.toList H) a) :
    wpAnyH P md ops C H (fun listed' a' => listed' = marks H listed ∧ Lq a') H.length listed a :=
  wpAnyH_list (R := fun t => !listed.getD t true && !H.contains t) (M := fun l' => l' = marks H listed) hsel hc hs
    (fun j hj => by simp [hj]) (fun l' hl' => by subst hl'; exact not_mem_of_ready hr hbH) H listed a (fun _ h => h) (start_inv hcl) hB rfl h

theorem closed_head {ops : Array Oper} {H : List Nat} {listed : Array Bool} (hcl : Closed md ops listed) (hB : headB md ops H listed = true) : Closed md ops (marks H listed) :=
  (headB_inv (H0 := H) (R := fun t => !listed.getD t true && !H.contains t) H listed (fun j hj => by simp [hj]) (start_inv hcl) hB).closed

theorem wpAny_plan {Q : Exit → Act → World → Prop} (hsel : Region.noSelect l.toArray = true) : ∀ (plan : List (List Nat × Nat)) (Hf : List Nat) (listed : Array Bool) (a : Act) (w : World),
    Closed md l.toArray listed → planB md l.toArray plan Hf listed = true → wpPlan P l Q plan Hf a w → wpAny P md l.toArray Q (planFuel plan Hf) listed a w
  | [], [], listed, a, w, _, hB, h => by
    simp only [planB, headB, marks, Bool.true_and, List.isEmpty_iff] at hB
    exact ⟨hB, h⟩
  | [], i :: Hf, listed, a, w, _, hB, h => by
    simp only [planB, Bool.and_eq_true, List.isEmpty_iff] at hB
    exact wpAny_of_quiet (Q := fun a' => ∀ w', (∃ n, w' = w.drewN n) → Q .normal a' w') (fun _ w' hw' h => h w' hw') _ _ _ _ ⟨0, rfl⟩
      (wpAnyQ_list (C := fun w' => ∃ n, w' = w.drewN n) hsel (i :: Hf) listed a hB.1 hB.2 h)
  | (H, b) :: rest, Hf, listed, a, w, hcl, hB, h => by
    simp only [planB, Bool.and_eq_true, decide_eq_true_eq, Bool.not_eq_true'] at hB
    obtain ⟨⟨⟨⟨⟨hB1, hr⟩, hbH⟩, hc⟩, hs⟩, hB2⟩ := hB
    have hbH' : b ∉ H := by simpa using hbH
    have hbr : b ∈ Region.ready md l.toArray (marks H listed) := by rw [hr]; simp
    obtain ⟨_, ob, hob, _⟩ := mem_ready.1 hbr
    have hob' : l[b]? = some ob := by simpa using hob
    have step : ∀ (a' : Act) (w' : World), wpList P l.toArray (Exit.then (fun a w => Halt (wpPlan P l Q rest Hf a w) () () () () () ()) Q) (pick l [b]) a' w' → wpAny P md l.toArray Q (1 + planFuel rest Hf) (marks H listed) a' w' := by
      intro a' w' h'
      rw [pick_one hob'] at h'
      rw [Nat.add_comm]
      refine ⟨fun h0 => (by rw [hr] at h0; cases h0), fun i hi => ?_⟩
      rw [hr] at hi
      have : i = b := by simpa using hi
      subst this
      exact wpOp_mono (fun a'' w'' h'' => wpAny_plan hsel rest Hf _ a'' w'' (closed_set (closed_head hcl hB1) hbr) hB2 h'') (wpList_pick hob h')
    cases H with
    | nil =>
      rw [planFuel, List.length_nil, Nat.zero_add]
      exact step a w h
    | cons i H =>
      refine wpAny_of_headH (C := fun w' => ∃ n, w' = w.drewN n) (H := i :: H) (L := fun listed' a' => listed' = marks (i :: H) listed ∧ ∀ w', (∃ n, w' = w.drewN n) → wpList P l.toArray (Exit.then (fun a w => Halt (wpPlan P l Q rest Hf a w) () () () () () ()) Q) (pick l [b]) a' w')
        (fun listed' a' w' hw' hL => by obtain ⟨rfl, hL⟩ := hL; exact step a' w' (hL w' hw')) _ _ _ _ ⟨0, rfl⟩ ?_
      exact head_then hsel hcl hB1 hr hbH' hc hs h

theorem wpAnyIn_plan {m : Nat} {Q : Exit → Act → World → Prop} (hsel : Region.noSelect l.toArray = true) : ∀ (plan : List (List Nat × Nat)) (Hf : List Nat) (listed : Array Bool) (a : Act) (w : World),
    Closed md l.toArray listed → planB md l.toArray plan Hf listed = true → wpPlanIn m P l Q plan Hf a w → wpAnyIn Fence.wide m P md l.toArray Q (planFuel plan Hf) listed a w
  | [], [], listed, a, w, _, hB, h => by
    simp only [planB, headB, marks, Bool.true_and, List.isEmpty_iff] at hB
    exact ⟨hB, h⟩
  | [], i :: Hf, listed, a, w, hcl, hB, h => by
    simp only [planB, Bool.and_eq_true, List.isEmpty_iff] at hB
    have := wpAnyQ_list (C := fun w' => ∃ n, w' = w.drewN n) hsel (i :: Hf) listed a hB.1 hB.2 h
    exact wpAnyIn_of_quiet (Q := fun a' => ∀ w', (∃ n, w' = w.drewN n) → Q .normal a' w') (fun _ w' hw' h => h w' hw') _ _ _ _ ⟨0, rfl⟩ this
  | (H, b) :: rest, Hf, listed, a, w, hcl, hB, h => by
    simp only [planB, Bool.and_eq_true, decide_eq_true_eq, Bool.not_eq_true'] at hB
    obtain ⟨⟨⟨⟨⟨hB1, hr⟩, hbH⟩, hc⟩, hs⟩, hB2⟩ := hB
    have hbH' : b ∉ H := by simpa using hbH
    have hbr : b ∈ Region.ready md l.toArray (marks H listed) := by rw [hr]; simp
    obtain ⟨_, ob, hob, _⟩ := mem_ready.1 hbr
    have hob' : l[b]? = some ob := by simpa using hob
    have step : ∀ (a' : Act) (w' : World), wpListIn Fence.wide m P l.toArray (Exit.then (fun a w => Halt (wpPlanIn m P l Q rest Hf a w) () () () () () ()) Q) (pick l [b]) a' w' → wpAnyIn Fence.wide m P md l.toArray Q (1 + planFuel rest Hf) (marks H listed) a' w' := by
      intro a' w' h'
      rw [pick_one hob'] at h'
      rw [Nat.add_comm]
      refine ⟨fun h0 => (by rw [hr] at h0; cases h0), fun i hi => ?_⟩
      rw [hr] at hi
      have : i = b := by simpa using hi
      subst this
      exact wpOpIn_mono (fun a'' w'' h'' => wpAnyIn_plan hsel rest Hf _ a'' w'' (closed_set (closed_head hcl hB1) hbr) hB2 h'') (wpListIn_pick hob h')
    cases H with
    | nil =>
      rw [planFuel, List.length_nil, Nat.zero_add]
      exact step a w h
    | cons i H =>
      refine wpAnyIn_of_headH (C := fun w' => ∃ n, w' = w.drewN n) (H := i :: H) (L := fun listed' a' => listed' = marks (i :: H) listed ∧ ∀ w', (∃ n, w' = w.drewN n) → wpListIn Fence.wide m P l.toArray (Exit.then (fun a w => Halt (wpPlanIn m P l Q rest Hf a w) () () () () () ()) Q) (pick l [b]) a' w')
        (fun listed' a' w' hw' hL => by obtain ⟨rfl, hL⟩ := hL; exact step a' w' (hL w' hw')) _ _ _ _ ⟨0, rfl⟩ ?_
      exact head_then hsel hcl hB1 hr hbH' hc hs h

/-- A region that draws its order, by a plan: what is asked speaks of the world ahead of it, and of that world after some draws. -/
theorem wp_plan {id : Nat} {Q : Exit → Act → World → Prop} {a : Act} {w : World} (i : Nat) (H : List Nat) (b : Nat) (rest : List (List Nat × Nat)) (Hf : List Nat) (hm : P.follows .mixedOrders = true)
    (hB : planOk l.toArray ((i :: H, b) :: rest) Hf = true) (h : wpPlan P l Q ((i :: H, b) :: rest) Hf a w) : (Code.region id l.toArray true).wp P Q a w := by
  simp only [planOk, planB, Bool.and_eq_true, decide_eq_true_eq, Bool.not_eq_true'] at hB
  obtain ⟨⟨hsel, hfuel⟩, ⟨⟨⟨⟨hB1, hr⟩, hbH⟩, hc⟩, hs⟩, hB2⟩ := hB
  have hbH' : b ∉ i :: H := by simpa using hbH
  have hbr : b ∈ Region.ready .any l.toArray (marks (i :: H) (Array.replicate l.toArray.size false)) := by rw [hr]; simp
  obtain ⟨_, ob, hob, _⟩ := mem_ready.1 hbr
  have hob' : l[b]? = some ob := by simpa using hob
  refine wp_region_any hm ?_
  have h2 := wpAny_of_headH (P := P) (C := fun w' => ∃ n, w' = w.drewN n) (g := 1 + planFuel rest Hf) (Q' := Q) (H := i :: H)
    (L := fun listed' a' => listed' = marks (i :: H) (Array.replicate l.toArray.size false) ∧ ∀ w', (∃ n, w' = w.drewN n) → wpList P l.toArray (Exit.then (fun a w => Halt (wpPlan P l Q rest Hf a w) () () () () () ()) Q) (pick l [b]) a' w')
    (fun listed' a' w' hw' hL => by
      obtain ⟨rfl, hL⟩ := hL
      have h' := hL w' hw'
      rw [pick_one hob'] at h'
      rw [Nat.add_comm]
      refine ⟨fun h0 => (by rw [hr] at h0; cases h0), fun j hj => ?_⟩
      rw [hr] at hj
      have : j = b := by simpa using hj
      subst this
      exact wpOp_mono (fun a'' w'' h'' => wpAny_plan hsel rest Hf _ a'' w'' (closed_set (closed_head closed_start hB1) hbr) hB2 h'') (wpList_pick hob h'))
    (i :: H).length (Array.replicate l.toArray.size false) a w.drew ⟨1, rfl⟩ (head_then hsel closed_start hB1 hr hbH' hc hs h)
  rw [show (i :: H).length + (1 + planFuel rest Hf) = l.toArray.size from hfuel] at h2
  exact h2

theorem wpIn_plan {m id : Nat} {Q : Exit → Act → World → Prop} {a : Act} {w : World} (i : Nat) (H : List Nat) (b : Nat) (rest : List (List Nat × Nat)) (Hf : List Nat) (hm : P.follows .mixedOrders = true)
    (hB : planOk l.toArray ((i :: H, b) :: rest) Hf = true) (h : wpPlanIn m P l Q ((i :: H, b) :: rest) Hf a w) : (Code.region id l.toArray true).wpIn Fence.wide m P Q a w := by
  simp only [planOk, planB, Bool.and_eq_true, decide_eq_true_eq, Bool.not_eq_true'] at hB
  obtain ⟨⟨hsel, hfuel⟩, ⟨⟨⟨⟨hB1, hr⟩, hbH⟩, hc⟩, hs⟩, hB2⟩ := hB
  have hbH' : b ∉ i :: H := by simpa using hbH
  have hbr : b ∈ Region.ready .any l.toArray (marks (i :: H) (Array.replicate l.toArray.size false)) := by rw [hr]; simp
  obtain ⟨_, ob, hob, _⟩ := mem_ready.1 hbr
  have hob' : l[b]? = some ob := by simpa using hob
  refine wpIn_region_any hm ?_
  have h2 := wpAnyIn_of_headH (n := m) (P := P) (C := fun w' => ∃ n, w' = w.drewN n) (g := 1 + planFuel rest Hf) (Q' := Q) (H := i :: H)
    (L := fun listed' a' => listed' = marks (i :: H) (Array.replicate l.toArray.size false) ∧ ∀ w', (∃ n, w' = w.drewN n) → wpListIn Fence.wide m P l.toArray (Exit.then (fun a w => Halt (wpPlanIn m P l Q rest Hf a w) () () () () () ()) Q) (pick l [b]) a' w')
    (fun listed' a' w' hw' hL => by
      obtain ⟨rfl, hL⟩ := hL
      have h' := hL w' hw'
      rw [pick_one hob'] at h'
      rw [Nat.add_comm]
      refine ⟨fun h0 => (by rw [hr] at h0; cases h0), fun j hj => ?_⟩
      rw [hr] at hj
      have : j = b := by simpa using hj
      subst this
      exact wpOpIn_mono (fun a'' w'' h'' => wpAnyIn_plan hsel rest Hf _ a'' w'' (closed_set (closed_head closed_start hB1) hbr) hB2 h'') (wpListIn_pick hob h'))
    (i :: H).length (Array.replicate l.toArray.size false) a w.drew ⟨1, rfl⟩ (head_then hsel closed_start hB1 hr hbH' hc hs h)
  rw [show (i :: H).length + (1 + planFuel rest Hf) = l.toArray.size from hfuel] at h2
  exact h2
end
end Go.Proofs.YtdinkdmkbfbjbaaGreatDoor
namespace Go.Proofs.YtdinkdmkbfbjbaaGreatDoor
section
variable {P : Program} {ops : Array Oper} {md : Region.Mode} {Q : Exit → Act → World → Prop} {Cl : World → Prop} {z : Nat}

/-- Whatever order is picked; every world on the way is of the class. -/
def wpAnyC (P : Program) (md : Region.Mode) (ops : Array Oper) (Q : Exit → Act → World → Prop) (Cl : World → Prop) (z : Nat) : Nat → Array Bool → Act → World → Prop
  | 0, listed, a, w => (listed.getD z false = false → Cl w) ∧ Region.ready md ops listed = [] ∧ Q .normal a w
  | f + 1, listed, a, w => (listed.getD z false = false → Cl w) ∧ (Region.ready md ops listed = [] → Q .normal a w) ∧
    ∀ i ∈ Region.ready md ops listed, wpOp P ops Q i (wpAnyC P md ops Q Cl z f (listed.setIfInBounds i true)) a w

theorem wpAnyC.any : ∀ {f : Nat} {listed : Array Bool} {a : Act} {w : World}, wpAnyC P md ops Q Cl z f listed a w → wpAny P md ops Q f listed a w
  | 0, _, _, _, h => h.2
  | _ + 1, _, _, _, h => ⟨h.2.1, fun i hi => wpOp_mono (fun _ _ h' => wpAnyC.any h') (h.2.2 i hi)⟩

theorem wpAnyC.cl {f : Nat} {listed : Array Bool} {a : Act} {w : World} (h : wpAnyC P md ops Q Cl z f listed a w) : listed.getD z false = false → Cl w := by
  cases f <;> exact h.1

/-- In every world of the class the operation yields v (or nothing, v being 'undef'), and leaves that world. -/
def stillV (P : Program) (w : World) (v : Value) : Result Next → Prop
  | .ok (.value u) w' => w' = w ∧ u = v
  | .ok .skip w' => w' = w ∧ v = undef
  | .ok (.enter f args) w' => w' = w ∧ Calls P f args w fun e w'' => e = .returned v ∧ w'' = w
  | _ => False

theorem stillV_value (P : Program) (w : World) (v u : Value) (w' : World) : stillV P w v (.ok (.value u) w') = (w' = w ∧ u = v) := rfl
theorem stillV_skip (P : Program) (w : World) (v : Value) (w' : World) : stillV P w v (.ok .skip w') = (w' = w ∧ v = undef) := rfl
theorem stillV_enter (P : Program) (w : World) (v : Value) (f : FuncId) (args : Array Value) (w' : World) : stillV P w v (.ok (.enter f args) w') = (w' = w ∧ Calls P f args w fun e w'' => e = .returned v ∧ w'' = w) := rfl

def FloatsIn (P : Program) (ops : Array Oper) (Cl : World → Prop) (o : Oper) (v : Value) (a : Act) : Prop :=
  (Region.wanted o (yielded ops a.tmps) = true ∧ ∀ w, Cl w → stillV P w v ((execOp a.eval o).run P w)) ∨
  (Region.wanted o (yielded ops a.tmps) = false ∧ v = undef)

theorem FloatsIn.wpOp {i : Nat} {o : Oper} {v : Value} {a : Act} (hi : ops[i]? = some o) (hy : FloatsIn P ops Cl o v a) {K : Act → World → Prop} {w : World} (hw : Cl w)
    (h : K (a.put o.dst v) w) : wpOp P ops Q i K a w := by
  unfold Go.wpOp
  simp only [hi]
  rcases hy with ⟨hwa, hv⟩ | ⟨hwa, rfl⟩
  · simp only [hwa, if_true]
    left
    have h1 := hv w hw
    unfold Oper.wp
    generalize (execOp a.eval o).run P w = r at *
    cases r with
    | ok x w' =>
      cases x <;> simp only [stillV] at h1 <;> simp only [Oper.upon]
      case value u => obtain ⟨rfl, rfl⟩ := h1; exact h
      case skip => obtain ⟨rfl, rfl⟩ := h1; exact h
      case enter f args =>
        obtain ⟨rfl, h1⟩ := h1
        exact h1.mono fun e w'' ⟨he, hw2⟩ => by subst he hw2; exact h
    | halt x w' => simp only [stillV] at h1
  · simp only [hwa, Bool.false_eq_true, if_false]; exact h

theorem FloatsIn.of_same {o : Oper} {v : Value} {a a' : Act} (hy : FloatsIn P ops Cl o v a) (he : execOp a'.eval o = execOp a.eval o)
    (hw : Region.wanted o (yielded ops a'.tmps) = Region.wanted o (yielded ops a.tmps)) : FloatsIn P ops Cl o v a' := by
  unfold FloatsIn at *
  rw [he, hw]
  exact hy

theorem wpOp_putC {j : Nat} {oi oj : Oper} {v : Value} (hj : ops[j]? = some oj) (hap : oi.apart ops oj = true)
    (hsi : ∀ cs b, oi.op ≠ .select cs b) (hsj : ∀ cs b, oj.op ≠ .select cs b)
    (hQ : ∀ c a w, Q (.panic c) (a.put oi.dst v) w → Q (.panic c) a w) {K : Act → World → Prop} {a : Act} {w : World}
    (hy : FloatsIn P ops Cl oi v a) (h : wpOp P ops Q j K (a.put oi.dst v) w) :
    wpOp P ops Q j (fun a' w' => FloatsIn P ops Cl oi v a' ∧ K (a'.put oi.dst v) w') a w := by
  obtain ⟨h1, h2, h3⟩ := Oper.apart_spec hap
  have keep : ∀ (a : Act), FloatsIn P ops Cl oi v a → ∀ u, FloatsIn P ops Cl oi v (a.put oj.dst u) := fun a hy u =>
    hy.of_same (execOp_put oi hsi a oj.dst u h3) (wanted_put oi a oj.dst u h3)
  have keepD : ∀ d, FloatsIn P ops Cl oi v { a with defers := d :: a.defers } := fun d => hy.of_same rfl rfl
  unfold wpOp at *
  simp only [hj] at *
  rw [wanted_put oj a oi.dst v h1] at h
  split
  · rename_i hw
    simp only [hw, if_true] at h
    rcases h with h | ⟨hasks, hlets⟩
    case inr => exact .inr ⟨by unfold Oper.asks at *; rw [execOp_put oj hsj a oi.dst v h1] at hasks; exact hasks, hlets⟩
    refine .inl ?_
    unfold Oper.wp at *
    rw [execOp_put oj hsj a oi.dst v h1] at h
    generalize (execOp a.eval oj).run P w = r at *
    cases r with
    | ok n w' =>
      cases n <;> simp only [Oper.upon] at h ⊢
      case value u => exact ⟨keep a hy u, by rw [← Act.put_comm a v u h2]; exact h⟩
      case skip => exact ⟨keep a hy _, by rw [← Act.put_comm a v undef h2]; exact h⟩
      case defer d =>
        refine ⟨keep _ (keepD d) _, ?_⟩
        rw [← Act.put_comm _ v undef h2, ← Act.put_defers]
        exact h
      case enter f args =>
        refine Calls.mono h fun e w'' he => ?_
        cases e with
        | returned u => exact ⟨keep a hy u, by rw [← Act.put_comm a v u h2]; exact he⟩
        | panicked c => exact hQ _ _ _ he
        | outgrown => exact he
      case row row args => exact Rows.mono h fun u w'' he => ⟨keep a hy u, by rw [← Act.put_comm a v u h2]; exact he⟩
    | halt x w' =>
      cases x <;> simp only [Oper.upon] at h ⊢
      case panic u => exact hQ _ _ _ h
  · rename_i hw
    simp only [hw] at h
    exact ⟨keep a hy _, by rw [← Act.put_comm a v undef h2]; exact h⟩

/-- A floating operation may be taken first (behind operation z the class is asked no more: z waits for whoever floats). -/
theorem wpAnyC_first {i : Nat} {oi : Oper} {v : Value} (hi : ops[i]? = some oi) (hsel : ∀ (j : Nat) (o : Oper) cs b, ops[j]? = some o → o.op ≠ .select cs b)
    (hQ : ∀ c a w, Q (.panic c) (a.put oi.dst v) w → Q (.panic c) a w) (hz : ops.size ≤ z ∨ Region.waitsFor md ops z i = true) :
    ∀ (fuel : Nat) (listed : Array Bool) (a : Act) (w : World), Closed md ops listed → listed.size = ops.size → Cl w →
      (∀ j oj, ops[j]? = some oj → j ≠ i → listed.getD j true = false → (∀ e ∈ oj.after, Region.binds md e = true → e.on ≠ i) → oi.apart ops oj = true) →
      i ∈ Region.ready md ops listed → FloatsIn P ops Cl oi v a →
      wpAnyC P md ops Q Cl z fuel (listed.setIfInBounds i true) (a.put oi.dst v) w → wpAnyC P md ops Q Cl z (fuel + 1) listed a w := by
  intro fuel
  induction fuel with
  | zero =>
    intro listed a w _ _ hcw _ hr hy H
    refine ⟨fun _ => hcw, fun h => (by rw [h] at hr; cases hr), fun j hj => ?_⟩
    by_cases hji : j = i
    · subst hji; exact hy.wpOp hi hcw H
    · have := ready_mono hj hji
      rw [H.2.1] at this
      cases this
  | succ fuel ih =>
    intro listed a w hcl hsz hcw hfree hr hy H
    refine ⟨fun _ => hcw, fun h => (by rw [h] at hr; cases hr), fun j hj => ?_⟩
    by_cases hji : j = i
    · subst hji; exact hy.wpOp hi hcw H
    · have h1 := H.2.2 j (ready_mono hj hji)
      obtain ⟨hjun, oj, hoj, hall⟩ := mem_ready.1 hj
      have h0 := (mem_ready.1 hr).1
      have hnot : ∀ e ∈ oj.after, Region.binds md e = true → e.on ≠ i := fun e he hb heq => by
        have h1 := hall e he hb
        rw [heq, getD_both h0] at h1
        cases h1
      have hzu : ((listed.setIfInBounds i true).setIfInBounds j true).getD z false = false := by
        rcases hz with hz | hz
        · have : ((listed.setIfInBounds i true).setIfInBounds j true).size ≤ z := by simp [hsz]; exact hz
          simp [Array.getElem?_eq_none this]
        · obtain ⟨oz, hoz, e, he, hb, hon⟩ := Region.waitsFor_spec hz
          have hzj : j ≠ z := fun e' => by
            subst e'
            have : oj = oz := Option.some.inj (hoj.symm.trans hoz)
            subst this
            exact hnot e he hb hon
          have hzi : i ≠ z := fun e' => by
            subst e'
            have := (mem_ready.1 hr).2
            obtain ⟨oi', hoi', hall'⟩ := this
            have : oi' = oz := Option.some.inj (hoi'.symm.trans hoz)
            subst this
            have h1 := hall' e he hb
            rw [hon, getD_both h0] at h1
            cases h1
          rw [getD_set_ne false hzj, getD_set_ne false hzi]
          cases hl : listed.getD z false with
          | false => rfl
          | true =>
            have h1 := hcl z oz hoz hl e he hb
            rw [hon, getD_both h0] at h1
            cases h1
      have h2 := wpOp_putC hoj (hfree j oj hoj hji hjun hnot) (fun cs b => hsel i oi cs b hi) (fun cs b => hsel j oj cs b hoj) hQ hy h1
      have hfree' : ∀ k ok, ops[k]? = some ok → k ≠ i → (listed.setIfInBounds j true).getD k true = false →
          (∀ e ∈ ok.after, Region.binds md e = true → e.on ≠ i) → oi.apart ops ok = true := fun k ok hk hki hun hno => by
        refine hfree k ok hk hki ?_ hno
        by_cases hjk : j = k
        · subst hjk; exact hjun
        · rw [getD_set_ne true hjk] at hun; exact hun
      refine wpOp_mono (fun a' w' h3 => ih (listed.setIfInBounds j true) a' w' (closed_set hcl hj) (by simpa using hsz) (wpAnyC.cl h3.2 hzu) hfree' (ready_mono hr (Ne.symm hji)) h3.1 ?_) h2
      rw [Array.setIfInBounds_comm _ _ hji]
      exact h3.2

theorem unlisted_before {listed : Array Bool} {i z : Nat} (h : (listed.setIfInBounds i true).getD z false = false) : listed.getD z false = false := by
  cases hl : listed.getD z false with
  | false => rfl
  | true => rw [getD_set_true hl] at h; cases h

theorem marks_false {z : Nat} : ∀ (H : List Nat) (listed : Array Bool), (marks H listed).getD z false = false → listed.getD z false = false
  | [], _, h => h
  | _ :: H, _, h => unlisted_before (marks_false H _ h)

theorem marks_size : ∀ (H : List Nat) (listed : Array Bool), (marks H listed).size = listed.size
  | [], _ => rfl
  | i :: H, listed => by rw [marks, marks_size H]; simp

theorem wpAnyC_of_headH {C : World → Prop} {H : List Nat} {g : Nat} {L : Array Bool → Act → Prop} (fl : Bool) (hC : fl = false → ∀ w, C w → Cl w) (hL : ∀ listed a w, C w → L listed a → wpAnyC P md ops Q Cl z g listed a w) :
    ∀ (f : Nat) (listed : Array Bool) (a : Act) (w : World), (listed.getD z false = false → fl = false) → C w → wpAnyH P md ops C H L f listed a → wpAnyC P md ops Q Cl z (f + g) listed a w
  | 0, listed, a, w, _, hw, h => by rw [Nat.zero_add]; exact hL _ _ _ hw h
  | f + 1, listed, a, w, hfl, hw, h => by
    rw [show f + 1 + g = (f + g) + 1 by omega]
    exact ⟨fun hz => hC (hfl hz) w hw, fun h0 => absurd h0 h.1, fun i hi => wpOp_of_qOp hw (fun a' w' hw' h' => wpAnyC_of_headH fl hC hL f _ a' w' (fun hz => hfl (unlisted_before hz)) hw' h') (h.2 i hi).2⟩

theorem wpAnyC_of_quiet {C : World → Prop} {Q0 : Act → Prop} (fl : Bool) (hC : fl = false → ∀ w, C w → Cl w) (hQ : ∀ a w, C w → Q0 a → Q .normal a w) : ∀ (fuel : Nat) (listed : Array Bool) (a : Act) (w : World), (listed.getD z false = false → fl = false) → C w →
    wpAnyQ P md ops C Q0 fuel listed a → wpAnyC P md ops Q Cl z fuel listed a w
  | 0, _, _, w, hfl, hw, h => ⟨fun hz => hC (hfl hz) w hw, h.1, hQ _ _ hw h.2⟩
  | fuel + 1, _, _, w, hfl, hw, h => ⟨fun hz => hC (hfl hz) w hw, fun h0 => hQ _ _ hw (h.1 h0), fun i hi => wpOp_of_qOp hw (fun a' w' hw' => wpAnyC_of_quiet fl hC hQ fuel _ a' w' (fun hz => hfl (unlisted_before hz)) hw') (h.2 i hi)⟩

/-- A step of a plan: quiet operations and a barrier; or one that floats. -/
inductive Step where
  | seg (H : List Nat) (b : Nat)
  | flt (i : Nat)

def planBC (md : Region.Mode) (ops : Array Oper) (z : Nat) : List Step → List Nat → Array Bool → Bool
  | [], Hf, listed => headB md ops Hf listed && (Region.ready md ops (marks Hf listed)).isEmpty
  | .flt i :: rest, Hf, listed => (Region.ready md ops listed).contains i && Region.free md ops listed i && (decide (ops.size ≤ z) || Region.waitsFor md ops z i) && planBC md ops z rest Hf (listed.setIfInBounds i true)
  | .seg H b :: rest, Hf, listed =>
    headB md ops H listed && decide (Region.ready md ops (marks H listed) = [b]) && !H.contains b &&
    sinkChain md ops b H && sinkRest md ops (fun t => !listed.getD t true && !H.contains t) b &&
    planBC md ops z rest Hf ((marks H listed).setIfInBounds b true)

def planFuelC : List Step → List Nat → Nat
  | [], Hf => Hf.length
  | .flt _ :: rest, Hf => planFuelC rest Hf + 1
  | .seg H _ :: rest, Hf => H.length + (1 + planFuelC rest Hf)

def planOkC (ops : Array Oper) (z : Nat) (plan : List Step) (Hf : List Nat) : Bool :=
  Region.noSelect ops && decide (planFuelC plan Hf = ops.size) && planBC .any ops z plan Hf (Array.replicate ops.size false)
end

section
variable {P : Program} {l : List Oper} {md : Region.Mode} {Q : Exit → Act → World → Prop} {Cl : World → Prop} {z : Nat}

/-- A floating operation: its one value. -/
def wpFloat (P : Program) (ops : Array Oper) (Cl : World → Prop) (K : Act → Prop) : List Oper → Act → Prop
  | [], a => K a
  | o :: _, a => ∃ v, (Region.wanted o (yielded ops a.tmps) = true → ∀ w, Cl w → stillV P w v ((execOp a.eval o).run P w)) ∧ (Region.wanted o (yielded ops a.tmps) = false → v = undef) ∧ K (a.put o.dst v)

theorem wpFloat_step {ops : Array Oper} {K : Act → Prop} {o : Oper} {rest : List Oper} {a : Act} (v : Value) (hg : o.guard = none) (h : ∀ w, Cl w → stillV P w v ((execOp a.eval o).run P w)) (hk : K (a.put o.dst v)) : wpFloat P ops Cl K (o :: rest) a :=
  ⟨v, fun _ => h, fun hw => by simp [Region.wanted, hg] at hw, hk⟩

def wpPlanC (P : Program) (l : List Oper) (Q : Exit → Act → World → Prop) (Cl : World → Prop) (z : Nat) : List Step → List Nat → Act → World → Prop
  | [], [], a, w => Q .normal a w
  | [], i :: Hf, a, w => wpQuiet P l.toArray (fun w' => ∃ n, w' = w.drewN n) (fun a' => ∀ w', (∃ n, w' = w.drewN n) → Q .normal a' w') (pick l (i :: Hf)) a
  | .flt i :: rest, Hf, a, w => wpFloat P l.toArray Cl (fun a' => wpPlanC P l Q Cl z rest Hf a' w) (pick l [i]) a
  | .seg [] b :: rest, Hf, a, w => wpList P l.toArray (Exit.then (fun a w => Halt ((b = z ∨ Cl w) ∧ wpPlanC P l Q Cl z rest Hf a w) () () () () () ()) Q) (pick l [b]) a w
  | .seg (i :: H) b :: rest, Hf, a, w => wpQuiet P l.toArray (fun w' => ∃ n, w' = w.drewN n)
      (fun a' => ∀ w', (∃ n, w' = w.drewN n) → wpList P l.toArray (Exit.then (fun a w => Halt ((b = z ∨ Cl w) ∧ wpPlanC P l Q Cl z rest Hf a w) () () () () () ()) Q) (pick l [b]) a' w') (pick l (i :: H)) a

theorem planC_flt {i : Nat} {rest : List Step} {Hf : List Nat} {a : Act} {w : World} {o : Oper} (ho : l[i]? = some o) (hg : o.guard = none)
    (h : ∃ v, (∀ w, Cl w → stillV P w v ((execOp a.eval o).run P w)) ∧ wpPlanC P l Q Cl z rest Hf (a.put o.dst v) w) : wpPlanC P l Q Cl z (.flt i :: rest) Hf a w := by
  obtain ⟨v, h, hk⟩ := h
  rw [wpPlanC, pick_one ho]
  exact wpFloat_step v hg h hk

theorem put_defers (a : Act) (dst : Option Tmp) (v : Value) : (a.put dst v).defers = a.defers := by cases dst <;> rfl

theorem wpAnyC_plan (hsel : Region.noSelect l.toArray = true) (hQ : ∀ c a w dst v, Q (.panic c) (a.put dst v) w → Q (.panic c) a w) (hdr : ∀ w n, Cl w → Cl (w.drewN n)) :
    ∀ (plan : List Step) (Hf : List Nat) (listed : Array Bool) (a : Act) (w : World),
    Closed md l.toArray listed → listed.size = l.toArray.size → planBC md l.toArray z plan Hf listed = true → (listed.getD z false = false → Cl w) → wpPlanC P l Q Cl z plan Hf a w → wpAnyC P md l.toArray Q Cl z (planFuelC plan Hf) listed a w
  | [], [], listed, a, w, _, _, hB, hcw, h => by
    simp only [planBC, headB, marks, Bool.true_and, List.isEmpty_iff] at hB
    exact ⟨hcw, hB, h⟩
  | [], i :: Hf, listed, a, w, _, _, hB, hcw, h => by
    simp only [planBC, Bool.and_eq_true, List.isEmpty_iff] at hB
    exact wpAnyC_of_quiet (C := fun w' => ∃ n, w' = w.drewN n) (Q0 := fun a' => ∀ w', (∃ n, w' = w.drewN n) → Q .normal a' w') (listed.getD z false) (fun hz w' ⟨n, e⟩ => e ▸ hdr w n (hcw hz)) (fun _ w' hw' h => h w' hw') _ _ _ _ (fun h => h) ⟨0, rfl⟩
      (wpAnyQ_list (C := fun w' => ∃ n, w' = w.drewN n) hsel (i :: Hf) listed a hB.1 hB.2 h)
  | .flt i :: rest, Hf, listed, a, w, hcl, hsz, hB, hcw, h => by
    simp only [planBC, Bool.and_eq_true, Bool.or_eq_true, decide_eq_true_eq] at hB
    obtain ⟨⟨⟨hr, hf⟩, hz⟩, hB2⟩ := hB
    have hr' : i ∈ Region.ready md l.toArray listed := by simpa using hr
    obtain ⟨h0, oi, hoi, hall⟩ := mem_ready.1 hr'
    have hoi' : l[i]? = some oi := by simpa using hoi
    simp only [wpPlanC, pick_one hoi', wpFloat] at h
    obtain ⟨v, h1, h2, h3⟩ := h
    have hzl : listed.getD z false = false := by
      rcases hz with hz | hz
      · simp [Array.getElem?_eq_none (show listed.size ≤ z by omega)]
      · obtain ⟨oz, hoz, e, he, hb, hon⟩ := Region.waitsFor_spec hz
        cases hl : listed.getD z false with
        | false => rfl
        | true =>
          have h4 := hcl z oz hoz hl e he hb
          rw [hon, getD_both h0] at h4
          cases h4
    refine wpAnyC_first hoi (Region.noSelect_spec hsel) (fun c a w => hQ c a w _ _) hz _ listed a w hcl hsz (hcw hzl) (Region.free_spec hoi hf) hr' ?_
      (wpAnyC_plan hsel hQ hdr rest Hf _ _ w (closed_set hcl hr') (by simpa using hsz) hB2 (fun _ => hcw hzl) h3)
    by_cases hwa : Region.wanted oi (yielded l.toArray a.tmps) = true
    · exact .inl ⟨hwa, h1 hwa⟩
    · have hwa' : Region.wanted oi (yielded l.toArray a.tmps) = false := by simpa using hwa
      exact .inr ⟨hwa', h2 hwa'⟩
  | .seg H b :: rest, Hf, listed, a, w, hcl, hsz, hB, hcw, h => by
    simp only [planBC, Bool.and_eq_true, decide_eq_true_eq, Bool.not_eq_true'] at hB
    obtain ⟨⟨⟨⟨⟨hB1, hr⟩, hbH⟩, hc⟩, hs⟩, hB2⟩ := hB
    have hbH' : b ∉ H := by simpa using hbH
    have hbr : b ∈ Region.ready md l.toArray (marks H listed) := by rw [hr]; simp
    obtain ⟨_, ob, hob, _⟩ := mem_ready.1 hbr
    have hob' : l[b]? = some ob := by simpa using hob
    have hms : (marks H listed).size = l.toArray.size := (marks_size H listed).trans hsz
    have hblt : b < l.toArray.size := (Array.getElem?_eq_some_iff.1 hob).1
    have step : ∀ (a' : Act) (w' : World), ((marks H listed).getD z false = false → Cl w') → wpList P l.toArray (Exit.then (fun a w => Halt ((b = z ∨ Cl w) ∧ wpPlanC P l Q Cl z rest Hf a w) () () () () () ()) Q) (pick l [b]) a' w' → wpAnyC P md l.toArray Q Cl z (1 + planFuelC rest Hf) (marks H listed) a' w' := by
      intro a' w' hcw' h'
      rw [pick_one hob'] at h'
      rw [Nat.add_comm]
      refine ⟨hcw', fun h0 => (by rw [hr] at h0; cases h0), fun i hi => ?_⟩
      rw [hr] at hi
      have : i = b := by simpa using hi
      subst this
      refine wpOp_mono (fun a'' w'' h'' => wpAnyC_plan hsel hQ hdr rest Hf _ a'' w'' (closed_set (closed_head hcl hB1) hbr) (by simpa using hms) hB2 (fun hzf => ?_) h''.2) (wpList_pick hob h')
      rcases h''.1 with e | hc'
      · subst e
        simp [show i < (marks H listed).size by omega] at hzf
      · exact hc'
    cases H with
    | nil =>
      rw [planFuelC, List.length_nil, Nat.zero_add]
      exact step a w hcw h
    | cons i H =>
      refine wpAnyC_of_headH (C := fun w' => ∃ n, w' = w.drewN n) (H := i :: H) (L := fun listed' a' => listed' = marks (i :: H) listed ∧ ∀ w', (∃ n, w' = w.drewN n) → wpList P l.toArray (Exit.then (fun a w => Halt ((b = z ∨ Cl w) ∧ wpPlanC P l Q Cl z rest Hf a w) () () () () () ()) Q) (pick l [b]) a' w')
        (listed.getD z false) (fun hz w' ⟨n, e⟩ => e ▸ hdr w n (hcw hz)) (fun listed' a' w' hw' hL => by
          obtain ⟨rfl, hL⟩ := hL
          refine step a' w' (fun hzf => ?_) (hL w' hw')
          obtain ⟨n, rfl⟩ := hw'
          exact hdr w n (hcw (marks_false _ _ hzf))) _ _ _ _ (fun h => h) ⟨0, rfl⟩ ?_
      exact head_then hsel hcl hB1 hr hbH' hc hs h

/-- A region that draws its order, by a plan in which some float: asked in the world behind the draw. -/
theorem wp_planC {id : Nat} {a : Act} {w : World} (Cl : World → Prop) (z : Nat) (plan : List Step) (Hf : List Nat) (hm : P.follows .mixedOrders = true) (hB : planOkC l.toArray z plan Hf = true)
    (hQ : ∀ c a w dst v, Q (.panic c) (a.put dst v) w → Q (.panic c) a w) (hdr : ∀ w n, Cl w → Cl (w.drewN n)) (hcw : Cl w)
    (h : ∀ n, wpPlanC P l Q Cl z plan Hf a (w.drewN n)) : (Code.region id l.toArray true).wp P Q a w := by
  simp only [planOkC, Bool.and_eq_true, decide_eq_true_eq] at hB
  have h2 := wpAnyC_plan (md := .any) hB.1.1 hQ hdr plan Hf _ a (w.drewN 1) closed_start (by simp) hB.2 (fun _ => hdr w 1 hcw) (h 1)
  rw [hB.1.2] at h2
  exact wp_region_any hm h2.any
end
end Go.Proofs.YtdinkdmkbfbjbaaGreatDoor
namespace Go.Proofs.YtdinkdmkbfbjbaaGreatDoor
open Go.RowKit
attribute [local go_sem] fold_part fold_some fold_some' partAt_zero

theorem str_app (x y : Bs) : (⟨x.toArray⟩ : ByteArray) ++ ⟨y.toArray⟩ = ⟨(x ++ y).toArray⟩ := by
  apply ByteArray.ext
  rw [ByteArray.data_append]
  simp

theorem char_string (c : UInt8) (h1 : 32 ≤ c.toNat) (h2 : c.toNat ≤ 126) (w : World) : (convert 21 9 (.int .i32 c.toNat)).run Tryz.prog w = .ok (.string ⟨#[c]⟩) w := by
  rw [run_convert_int_string w _ _ _ _ (by kernel_rfl) Tryz.underlying9]
  have hv : Utf8.valid (c.toNat : Int) = true := by unfold Utf8.valid; simp; omega
  unfold Utf8.encode
  simp only [hv, if_true, Int.toNat_natCast]
  rw [if_pos (by omega)]
  simp

theorem quotedC_ways (c : UInt8) : ((c.toNat : Int) = 13 ∧ quotedC c = [92, 114]) ∨ ((c.toNat : Int) = 10 ∧ quotedC c = [92, 110]) ∨ ((c.toNat : Int) = 9 ∧ quotedC c = [92, 116]) ∨ ((c.toNat : Int) = 34 ∧ quotedC c = [92, 34]) ∨ ((c.toNat : Int) = 92 ∧ quotedC c = [92, 92]) ∨
    (¬ (c.toNat : Int) = 13 ∧ ¬ (c.toNat : Int) = 10 ∧ ¬ (c.toNat : Int) = 9 ∧ ¬ (c.toNat : Int) = 34 ∧ ¬ (c.toNat : Int) = 92 ∧
      (((c.toNat < 32 ∨ 126 < c.toNat) ∧ quotedC c = [92, 120, hx (c.toNat / 16), hx (c.toNat % 16)]) ∨ (32 ≤ c.toNat ∧ c.toNat ≤ 126 ∧ quotedC c = [c]))) := by
  have key : ∀ k : UInt8, c ≠ k → ¬ (c.toNat : Int) = k.toNat := fun k hk e => hk (UInt8.toNat_inj.1 (by omega))
  unfold quotedC
  by_cases h1 : c = 13
  · subst h1; left; decide
  by_cases h2 : c = 10
  · subst h2; right; left; decide
  by_cases h3 : c = 9
  · subst h3; right; right; left; decide
  by_cases h4 : c = 34
  · subst h4; right; right; right; left; decide
  by_cases h5 : c = 92
  · subst h5; right; right; right; right; left; decide
  · right; right; right; right; right
    rw [if_neg h1, if_neg h2, if_neg h3, if_neg h4, if_neg h5]
    refine ⟨key 13 h1, key 10 h2, key 9 h3, key 34 h4, key 92 h5, ?_⟩
    by_cases h6 : c.toNat < 32 ∨ 126 < c.toNat
    · exact .inl ⟨h6, by rw [if_pos h6]⟩
    · exact .inr ⟨by omega, by omega, by rw [if_neg h6]⟩

theorem and_all : ((List.range 256).all fun x => bits .and .u8 (x : Int) 15 == ((x % 16 : Nat) : Int)) = true := by decide +kernel
theorem and_15 (x : Nat) (hx : x < 256) : bits .and .u8 (x : Int) 15 = ((x % 16 : Nat) : Int) := by
  have := List.all_eq_true.1 and_all x (List.mem_range.2 hx)
  simpa using this
theorem digits_at (h : Nat) (hh : h < 16) : (⟨#[48, 49, 50, 51, 52, 53, 54, 55, 56, 57, 97, 98, 99, 100, 101, 102]⟩ : ByteArray).extract h (h + 1) = ⟨#[hx h]⟩ := by
  have key : ∀ h : Fin 16, (⟨#[48, 49, 50, 51, 52, 53, 54, 55, 56, 57, 97, 98, 99, 100, 101, 102]⟩ : ByteArray).extract h.1 (h.1 + 1) = ⟨#[hx h.1]⟩ := by decide
  exact key ⟨h, hh⟩

set_option maxRecDepth 100000 in
set_option maxHeartbeats 1600000 in
theorem pquotedC (c : UInt8) (w : World) : Calls Tryz.prog 68 #[.int .u8 c.toNat] w fun e w' => e = .returned (.string ⟨(quotedC c).toArray⟩) ∧ Kept NoBlock w w' := by
  have hch := char_string c
  have hc256 : c.toNat < 256 := c.toNat_lt
  rcases quotedC_ways c with ⟨h, e⟩ | ⟨h, e⟩ | ⟨h, e⟩ | ⟨h, e⟩ | ⟨h, e⟩ | ⟨h1, h2, h3, h4, h5, ⟨h6, e⟩ | ⟨h6, h7, e⟩⟩
  iterate 5
    · rw [e]
      generalize (c.toNat : Int) = ci at *
      subst h
      go_enter Tryz.func68, Tryz.ntmps68
      go_wp2
      go_ret
      exact ⟨rfl, Kept.refl _ _⟩
  · rw [e]
    clear e hch
    generalize c.toNat = x at *
    have h6' : (x : Int) < 32 ∨ (126 : Int) < (x : Int) := by omega
    have hx255 : x ≤ 255 := by omega
    obtain ⟨h, hh⟩ : ∃ h, h = x / 16 := ⟨_, rfl⟩
    obtain ⟨l, hl⟩ : ∃ l, l = x % 16 := ⟨_, rfl⟩
    rw [← hh, ← hl]
    have q1 : (x : Int) / 16 = (h : Int) := by omega
    have q2 : bits .and .u8 (x : Int) 15 = (l : Int) := by rw [hl]; exact and_15 x hc256
    have q3 : IntKind.u8.wrap ((h : Int) + 1) = (h : Int) + 1 := by simp [IntKind.wrap, IntKind.bits, IntKind.signed]; omega
    have q4 : IntKind.u8.wrap ((l : Int) + 1) = (l : Int) + 1 := by simp [IntKind.wrap, IntKind.bits, IntKind.signed]; omega
    have hh16 : h < 16 := by omega
    have hl16 : l < 16 := by omega
    have e1 := digits_at h hh16
    have e2 := digits_at l hl16
    have e3 := str_app [92, 120] [hx h]
    have e4 := str_app ([92, 120] ++ [hx h]) [hx l]
    rw [← e3] at e4
    have E4 := Lib.hid e4.symm
    obtain ⟨D, hD⟩ : ∃ D : ByteArray, D = ⟨#[hx h]⟩ := ⟨_, rfl⟩
    obtain ⟨L, hL⟩ : ∃ L : ByteArray, L = ⟨#[hx l]⟩ := ⟨_, rfl⟩
    have hD1 : D.size = 1 := by rw [hD]; rfl
    have hL1 : L.size = 1 := by rw [hL]; rfl
    rw [← hD] at e1
    rw [← hL] at e2
    have HD := Lib.hid hD
    have HL := Lib.hid hL
    have r1 : (0 : Int) ≤ (h : Int) := by omega
    have r2 : (h : Int) ≤ (h : Int) + 1 := by omega
    have r3 : (h : Int) + 1 ≤ 16 := by omega
    have r4 : (l : Int) + 1 ≤ 16 := by omega
    have r5 : h + 1 ≤ 16 := by omega
    have r9 : (0 : Int) ≤ (l : Int) + 1 := by omega
    have r10 : (l : Int) ≤ (l : Int) + 1 := by omega
    have r11 : (0 : Int) ≤ (h : Int) + 1 := by omega
    have r6 : l + 1 ≤ 16 := by omega
    have r7 : ((h : Int) + 1).toNat = h + 1 := by omega
    have r8 : ((l : Int) + 1).toNat = l + 1 := by omega
    have q5 : ¬ (9223372036854775807 < 2 + D.size) := by omega
    have q6 : ¬ (9223372036854775807 < 2 + D.size + L.size) := by omega
    clear hh hl hD hL e3 e4
    clear h6
    rcases h6' with h6' | h6'
    all_goals
      go_enter Tryz.func68, Tryz.ntmps68
      go_wp2
      refine wp_region_quiet_lit (by kernel_rfl) (by kernel_rfl) ?_
      repeat (quiet_step (fail))
      refine wpQuiet_nil ?_
      rintro _ ⟨n1, rfl⟩
      go_wp2
      go_ret
      exact ⟨by rw [HD.out, HL.out, ← E4.out]; rfl, (Kept.refl NoBlock w).drewN _⟩
  · have hcs := hch h6 h7
    have h6' : ¬ (c.toNat : Int) < 32 := by omega
    have h7' : ¬ (126 : Int) < (c.toNat : Int) := by omega
    rw [e]
    go_enter Tryz.func68, Tryz.ntmps68
    go_wp2
    go_ret
    exact ⟨rfl, Kept.refl _ _⟩
end Go.Proofs.YtdinkdmkbfbjbaaGreatDoor
namespace Go.Proofs.YtdinkdmkbfbjbaaGreatDoor
open Go.RowKit
attribute [local go_sem] fold_part fold_some fold_some' partAt_zero

theorem take_snoc' (l : Bs) (k : Nat) (h : k < l.length) : l.take (k + 1) = l.take k ++ [l[k]] := List.take_succ_eq_append_getElem h

theorem BytesV.cellI {w : World} {ap : Option Addr} {n cap : Nat} {l : Bs} (h : BytesV w (.slice ap n cap) l) {i : Nat} (hi : i < l.length) : ∃ ad, ap = some ad ∧ w.cell? (ad.add i) = some (.int .u8 (l[i]).toNat) :=
  RowV.cell h (i := i) (v := bv l[i]) (by rw [List.getElem?_map, List.getElem?_eq_getElem hi]; rfl)

set_option maxRecDepth 100000 in
set_option maxHeartbeats 1600000 in
theorem pquote (v : Value) (b : Bs) (w : World) (h : BytesV w v b) (hb : b.length ≤ 10000) :
    Calls Tryz.prog 41 #[v] w fun e w' => e = .returned (.string ⟨(quote b).toArray⟩) ∧ Kept NoBlock w w' := by
  obtain ⟨ap, cap, rfl, hc, _⟩ := h.parts
  have HB := Lib.hid h
  obtain ⟨n, hn⟩ : ∃ n, n = b.length := ⟨_, rfl⟩
  rw [← hn] at HB hb ⊢
  have HN := Lib.hid hn
  have hm := bd_made w
  have hb1 := bd_byte w.heap.size w.heap.size [] 34 34 rfl _ hm (by simp) (by simp)
  have hk0 : Below w.heap.size w (w.alloc (.cells #[.pointer none, .slice none 0 0] 114)) := (Below.refl _ w).alloc (Nat.le_refl _) _
  have HB1 := Lib.hid hb1
  clear h hn hm hb1 hc
  go_enter Tryz.func41, Tryz.ntmps41
  go_wp2_with (go_at_call 66; refine HB1.out.mono ?_; rintro e w1 ⟨rfl, hbd, hbl⟩; refine Hid.out ?_)
  have HBD := Lib.hid hbd
  have HBL := Lib.hid (hk0.trans (hbl.mono (by simp)))
  clear hbd hbl hk0 HB1
  refine Lib.hid ?_
  go_wp2
  go_loopw [9] (fun vi wr => ∃ k : Nat, k ≤ n ∧ vi = .int .i64 k ∧ Bld w.heap.size w.heap.size (34 :: quoteA (b.take k)) wr ∧ Below w.heap.size w wr) (fun vi _ => n - (intOf vi).toNat)
  case atStart => exact ⟨0, Nat.zero_le _, rfl, HBD.out, HBL.out⟩
  case round =>
    obtain ⟨k, hk, rfl, hbd, hbl⟩ := hrel
    have hsz := hbl.size
    have hql := (quoteA_len (b.take k)).2
    have htk : (b.take k).length ≤ k := by rw [List.length_take]; omega
    have HBL2 := Lib.hid hbl
    by_cases hlt : k < n
    · have hkb : k < b.length := by rw [← HN.out]; exact hlt
      obtain ⟨ad, rfl, hcell⟩ := (HB.out.keptNo (Kept.ofB hbl)).cellI hkb
      have hts := take_snoc' b k hkb
      obtain ⟨c, hcc⟩ : ∃ c, c = b[k] := ⟨_, rfl⟩
      rw [← hcc] at hts hcell
      have hpq := pquotedC c wr
      have hq4 := (quotedC_len c).2
      have hws := fun W (hK : Kept NoBlock wr W) => bd_string w.heap.size w.heap.size (34 :: quoteA (b.take k)) (quotedC c) _ rfl W (Bld.kept hbd hK) (by simp only [List.length_cons]; omega) (by omega) (Nat.le_trans hsz hK.size)
      have hqs : 34 :: quoteA (b.take (k + 1)) = 34 :: quoteA (b.take k) ++ quotedC c := by rw [hts, quoteA_snoc]; rfl
      have HQS := Lib.hid hqs
      have HPQ := Lib.hid hpq
      have HWS := Lib.hid hws
      clear hpq hws hqs hts hcc hbd hbl HBD HBL
      go_wp2_with (first | (go_at_call 68; refine HPQ.out.mono ?_; rintro e w2 ⟨rfl, hk2⟩) | (go_at_call 67; refine (HWS.out _ hk2).mono ?_; rintro e w3 ⟨rfl, hbd3, hbl3⟩))
      go_roundw
      case rel => exact ⟨k + 1, by omega, by go_num, by rw [HQS.out]; exact hbd3, (HBL2.out.trans (hk2.toB.mono hsz)).trans hbl3⟩
      case measure => simp [intOf]; omega
    · obtain rfl : k = n := by omega
      have htt : b.take k = b := List.take_of_length_le (by rw [← HN.out]; exact Nat.le_refl _)
      rw [htt] at hbd hql htk
      have hwb := bd_byte w.heap.size w.heap.size _ 34 34 rfl wr hbd (by simp only [List.length_cons]; omega) hsz
      have HWB := Lib.hid hwb
      clear hwb hbd hbl HBD HBL htt
      go_wp2_with (go_at_call 66; refine HWB.out.mono ?_; rintro e w2 ⟨rfl, hbd2, hbl2⟩; refine Hid.out ?_)
      have htx := bd_text w.heap.size w.heap.size _ w2 hbd2 (Nat.le_trans hsz hbl2.size)
      have HTX := Lib.hid htx
      clear htx hbd2
      refine Lib.hid ?_
      go_wp2_with (go_at_call 69; refine HTX.out.mono ?_; rintro e w3 ⟨rfl, hbl3⟩)
      go_ret
      exact ⟨rfl, Kept.ofB ((HBL2.out.trans hbl2).trans hbl3)⟩

theorem conv_one (c : UInt8) (W : World) : (convert 43 9 (.slice (some ⟨W.heap.size, 0, none⟩) 1 1)).run Tryz.prog (W.alloc (.cells #[.int .u8 c.toNat] 5)) = .ok (.string ⟨#[c]⟩) (W.alloc (.cells #[.int .u8 c.toNat] 5)) :=
  conv_bytes (W.alloc (.cells #[.int .u8 c.toNat] 5)) 43 9 5 Tryz.underlying43 Tryz.underlying5 Tryz.underlying9 1 (l := [c]) (holds_fresh W 5 [.int .u8 c.toNat])
theorem conv_two (c d : UInt8) (W : World) (m : Nat) : (convert 43 9 (.slice (some ⟨W.heap.size, 0, none⟩) 2 2)).run Tryz.prog ((W.alloc (.cells #[.int .u8 c.toNat, .int .u8 d.toNat] 5)).drewN m) = .ok (.string ⟨#[c, d]⟩) ((W.alloc (.cells #[.int .u8 c.toNat, .int .u8 d.toNat] 5)).drewN m) :=
  conv_bytes ((W.alloc (.cells #[.int .u8 c.toNat, .int .u8 d.toNat] 5)).drewN m) 43 9 5 Tryz.underlying43 Tryz.underlying5 Tryz.underlying9 2 (l := [c, d]) (holds_fresh W 5 [.int .u8 c.toNat, .int .u8 d.toNat])

theorem digit_idx (h : Nat) (hh : h < 16) : ∃ hp, (⟨#[48, 49, 50, 51, 52, 53, 54, 55, 56, 57, 97, 98, 99, 100, 101, 102]⟩ : ByteArray)[h]'hp = hx h := by
  have key : ∀ h : Fin 16, (⟨#[48, 49, 50, 51, 52, 53, 54, 55, 56, 57, 97, 98, 99, 100, 101, 102]⟩ : ByteArray)[h.1]'(by show h.1 < 16; exact h.2) = hx h.1 := by decide
  exact ⟨by show h < 16; exact hh, key ⟨h, hh⟩⟩

set_option maxRecDepth 100000 in
set_option maxHeartbeats 1600000 in
theorem rone (c : UInt8) (w : World) : Calls Tryz.prog 72 #[.int .u8 c.toNat] w fun e w' => e = .returned (.string ⟨(quotedC c).toArray⟩) ∧ Kept NoBlock w w' := by
  have hc256 : c.toNat < 256 := c.toNat_lt
  rcases quotedC_ways c with ⟨h, e⟩ | ⟨h, e⟩ | ⟨h, e⟩ | ⟨h, e⟩ | ⟨h, e⟩ | ⟨h1, h2, h3, h4, h5, ⟨h6, e⟩ | ⟨h6, h7, e⟩⟩
  iterate 5
    · rw [e]
      generalize (c.toNat : Int) = ci at *
      subst h
      go_enter Tryz.func72, Tryz.ntmps72
      go_wp2
      go_ret
      exact ⟨rfl, Kept.refl _ _⟩
  · rw [e]
    clear e
    generalize c.toNat = x at *
    have h6' : (x : Int) < 32 ∨ ((32 : Int) ≤ (x : Int) ∧ (126 : Int) < (x : Int)) := by omega
    obtain ⟨h, hh⟩ : ∃ h, h = x / 16 := ⟨_, rfl⟩
    obtain ⟨l, hl⟩ : ∃ l, l = x % 16 := ⟨_, rfl⟩
    rw [← hh, ← hl]
    have q1 : (x : Int) / 16 = (h : Int) := by omega
    have q2 : (x : Int) % 16 = (l : Int) := by omega
    have q1' : (x : Int).tdiv 16 = (h : Int) := by rw [hh]; rfl
    have q2' : (x : Int).tmod 16 = (l : Int) := by rw [hl]; rfl
    have hh16 : h < 16 := by omega
    have hl16 : l < 16 := by omega
    obtain ⟨hp1, e1⟩ := digit_idx h hh16
    obtain ⟨hp2, e2⟩ := digit_idx l hl16
    have q3 : IntKind.u8.wrap (h : Int) = (h : Int) := by simp [IntKind.wrap, IntKind.bits, IntKind.signed]; omega
    have q4 : IntKind.u8.wrap (l : Int) = (l : Int) := by simp [IntKind.wrap, IntKind.bits, IntKind.signed]; omega
    have r1 : (h : Int) < 16 := by omega
    have r2 : (l : Int) < 16 := by omega
    have r3 : (0 : Int) ≤ (h : Int) := by omega
    have r4 : (0 : Int) ≤ (l : Int) := by omega
    have e3 := str_app [92, 120] [hx h, hx l]
    have E3 := Lib.hid e3
    have hct := fun W m => conv_two (hx h) (hx l) W m
    obtain ⟨D, hD⟩ : ∃ D : ByteArray, D = ⟨#[hx h, hx l]⟩ := ⟨_, rfl⟩
    have hD1 : D.size = 2 := by rw [hD]; rfl
    rw [← hD] at hct
    have HD := Lib.hid hD
    clear hh hl h6 hD e3
    rcases h6' with h6' | ⟨h6', h7'⟩
    all_goals
      go_enter Tryz.func72, Tryz.ntmps72
      go_wp2
      refine wp_plan 0 [1, 2, 3, 4, 5] 6 [] [7, 8, 9] (by kernel_rfl) (by kernel_rfl) ?_
      simp only [wpPlan, pick, List.filterMap_cons, List.filterMap_nil, List.getElem?_cons_succ, List.getElem?_cons_zero]
      repeat (quiet_step (fail))
      refine wpQuiet_nil ?_
      rintro _ ⟨n1, rfl⟩
      go_wp2
      refine Halt.mk ?_
      have hct1 := fun m => hct (w.drewN n1) m
      rw [World.heap_drewN] at hct1
      have q5 : ¬ (9223372036854775807 < 2 + D.size) := by omega
      repeat (quiet_step (fail))
      refine wpQuiet_nil ?_
      rintro _ ⟨n2, rfl⟩
      go_wp2
      go_ret
      exact ⟨by rw [HD.out, E3.out]; rfl, (((Kept.refl NoBlock w).drewN _).alloc _).drewN _⟩
  · have hcs := fun W => conv_one c W
    have h6' : (32 : Int) ≤ (c.toNat : Int) := by omega
    have h7' : (c.toNat : Int) ≤ 126 := by omega
    rw [e]
    go_enter Tryz.func72, Tryz.ntmps72
    go_wp2
    go_ret
    exact ⟨rfl, (Kept.refl NoBlock w).alloc _⟩
end Go.Proofs.YtdinkdmkbfbjbaaGreatDoor
namespace Go.Proofs.YtdinkdmkbfbjbaaGreatDoor
open Go.RowKit
attribute [local go_sem] fold_part fold_some fold_some' partAt_zero

theorem str_size {S : ByteArray} {l : Bs} (hS : S = ⟨l.toArray⟩) : S.size = l.length := by subst hS; rfl
theorem str_at {S : ByteArray} {l : Bs} (hS : S = ⟨l.toArray⟩) {i : Nat} {c : UInt8} (h : l[i]? = some c) : ∃ hi : i < S.size, S[i]'hi = c := by
  subst hS
  obtain ⟨hl, e⟩ := List.getElem?_eq_some_iff.1 h
  exact ⟨hl, by rw [← e]; rfl⟩
theorem drop_cons {l : Bs} {i : Nat} (h : i < l.length) : l.drop i = l[i] :: l.drop (i + 1) := (List.getElem_cons_drop h).symm
theorem str_drop (l : Bs) (k : Nat) : (⟨l.toArray⟩ : ByteArray).extract k l.length = ⟨(l.drop k).toArray⟩ := by
  apply ByteArray.ext
  rw [ByteArray.data_extract]
  simp [List.take_of_length_le]
theorem str_take (l : Bs) (k : Nat) : (⟨l.toArray⟩ : ByteArray).extract 0 k = ⟨(l.take k).toArray⟩ := by
  apply ByteArray.ext
  rw [ByteArray.data_extract]
  simp
theorem str_part (l : Bs) (i j : Nat) : (⟨l.toArray⟩ : ByteArray).extract i j = ⟨((l.take j).drop i).toArray⟩ := by
  apply ByteArray.ext
  rw [ByteArray.data_extract]
  simp [List.extract_eq_take_drop, List.drop_take]

/-- A row of bytes that the call itself has made, with a mark or none behind it. -/
def OwnT (w : World) (base : Nat) (v : Value) (xs : Bs) : Prop := OwnM w base 5 v xs.length (xs.map bv)
theorem OwnT.bytes {w : World} {base : Nat} {v : Value} {xs : Bs} (h : OwnT w base v xs) : BytesV w v xs := OwnM.row h
theorem OwnT.nil (w : World) (base : Nat) : OwnT w base (.slice none 0 0) [] := OwnM.nil _ _ _
theorem OwnT.kept {w w' : World} {base : Nat} {v : Value} {xs : Bs} (h : OwnT w base v xs) (hk : Kept NoBlock w w') : OwnT w' base v xs := OwnM.kept h hk
theorem OwnT.fresh (w : World) (xs : Bs) (h : xs.length ≤ maxLen) : OwnT (w.alloc (.cells (xs.map bv).toArray 5)) w.heap.size (.slice (some ⟨w.heap.size, 0, none⟩) xs.length xs.length) xs :=
  ⟨by simp, .inr ⟨_, _, _, _, rfl, Nat.le_refl _, heap_alloc_new w _, .inl (Nat.zero_le _), Nat.le_refl _, h, by simp, by simp [List.take_of_length_le]⟩⟩

theorem wpList_appT {w : World} {ops : Array Oper} {rest : List Oper} {o : Oper} {a : Act} {Q : Exit → Act → World → Prop} (hgd : o.guard = none) (sl x : Operand)
    (ho : o.op = .call { callee := .builtin .append, args := #[sl, x], argTypes := #[43, 9] })
    (base : Nat) (v : Value) (xs : Bs) (hs : a.eval sl = v) (hown : OwnT w base v xs) (p : Bs) (S : ByteArray) (hS : S = ⟨p.toArray⟩) (hx : a.eval x = .string S) (hlen : xs.length + p.length ≤ 1000000000) (hbase : base ≤ w.heap.size)
    (h : ∀ v' w', OwnT w' base v' (xs ++ p) → w.grownBy w' v.ownBlock → wpList Tryz.prog ops Q rest (a.put o.dst v') w') : wpList Tryz.prog ops Q (o :: rest) a w := by
  obtain ⟨i0, hi, hz0, hz1, hz2⟩ := info_parts byteInfo
  have hsz : S.size = p.length := by subst hS; rfl
  refine wpList_append_strM (P := Tryz.prog) w hgd sl x 43 9 ho base 5 i0 Tryz.underlying43 Tryz.underlying9 hi hz0 hz1 hz2 v xs.length (xs.map bv) hs hown S hx (by unfold maxLen; omega) (by omega) hbase ?_
  intro v' w' hr hg
  refine h v' w' ?_ hg
  rw [strCells_bv, hS] at hr
  unfold OwnT
  rw [List.length_append, List.map_append]
  exact hr

theorem wpList_appL {w : World} {ops : Array Oper} {rest : List Oper} {o : Oper} {a : Act} {Q : Exit → Act → World → Prop} (hgd : o.guard = none) (sl x : Operand)
    (ho : o.op = .call { callee := .builtin .append, args := #[sl, x], argTypes := #[43, 43] })
    (base : Nat) (v : Value) (xs : Bs) (hs : a.eval sl = v) (hown : OwnT w base v xs) (u : Value) (p : Bs) (hx : a.eval x = u) (hb : BytesV w u p) (hlen : xs.length + p.length ≤ 1000000000) (hbase : base ≤ w.heap.size)
    (h : ∀ v' w', OwnT w' base v' (xs ++ p) → w.grownBy w' v.ownBlock → wpList Tryz.prog ops Q rest (a.put o.dst v') w') : wpList Tryz.prog ops Q (o :: rest) a w := by
  obtain ⟨i0, hi, hz0, hz1, hz2⟩ := info_parts byteInfo
  obtain ⟨ap, cap, rfl, _, _⟩ := hb.parts
  obtain ⟨hH, hl, hc, hn⟩ := RowV.holds hb
  refine wpList_append_M (P := Tryz.prog) w hgd sl x 43 ho base 5 i0 _ 1 Tryz.underlying43 hi hz0 hz1 hz2 rfl v xs.length (xs.map bv) hs hown ap p.length cap (p.map bv) hx hH hn (bv_one p) (by unfold maxLen; omega) (by omega) hbase ?_
  intro v' w' hr hg
  refine h v' w' ?_ hg
  unfold OwnT
  rw [List.length_append, List.map_append]
  exact hr

theorem bytes_fresh (w : World) (xs : Bs) : BytesV (w.alloc (.cells (xs.map bv).toArray 5)) (.slice (some ⟨w.heap.size, 0, none⟩) xs.length xs.length) xs := by
  have := holds_fresh w 5 (xs.map bv)
  rw [List.length_map] at this
  exact RowV.mk this (Nat.le_refl _) (fun h => by cases h)

theorem rquote_def : quote [] = [34, 34] := rfl

set_option maxRecDepth 100000 in
set_option maxHeartbeats 1600000 in
theorem rquote (v : Value) (b : Bs) (w : World) (h : BytesV w v b) (hb : b.length ≤ 10000) :
    Calls Tryz.prog 45 #[v] w fun e w' => e = .returned (.string ⟨(quote b).toArray⟩) ∧ Kept NoBlock w w' := by
  obtain ⟨ap, cap, rfl, hc, _⟩ := h.parts
  have HB := Lib.hid h
  obtain ⟨n, hn⟩ : ∃ n, n = b.length := ⟨_, rfl⟩
  rw [← hn] at HB hb ⊢
  have HN := Lib.hid hn
  have ho := OwnT.fresh w [34] (by decide)
  have hk0 : Kept NoBlock w (w.alloc (.cells ([34].map bv).toArray 5)) := Kept.allocd _ _
  have HO := Lib.hid ho
  have HK := Lib.hid hk0
  clear h hn hc ho hk0
  go_enter Tryz.func45, Tryz.ntmps45
  go_wp2
  go_loopw [3, 4] (fun vo vi wr => ∃ k : Nat, k ≤ n ∧ vi = .int .i64 k ∧ OwnT wr w.heap.size vo (34 :: quoteA (b.take k)) ∧ Kept NoBlock w wr) (fun _ vi _ => n - (intOf vi).toNat)
  case atStart => exact ⟨0, Nat.zero_le _, rfl, HO.out, HK.out⟩
  case round =>
    obtain ⟨k, hk, rfl, hown, hkp⟩ := hrel
    have hsz := hkp.size
    have hql := (quoteA_len (b.take k)).2
    have htk : (b.take k).length ≤ k := by rw [List.length_take]; omega
    have HO2 := Lib.hid hown
    have HK2 := Lib.hid hkp
    by_cases hlt : k < n
    · have hkb : k < b.length := by rw [← HN.out]; exact hlt
      obtain ⟨ad, rfl, hcell⟩ := (HB.out.keptNo hkp).cellI hkb
      have hts := take_snoc' b k hkb
      obtain ⟨c, hcc⟩ : ∃ c, c = b[k] := ⟨_, rfl⟩
      rw [← hcc] at hts hcell
      have hpq := rone c wr
      have hq4 := (quotedC_len c).2
      have hqs : 34 :: quoteA (b.take (k + 1)) = 34 :: quoteA (b.take k) ++ quotedC c := by rw [hts, quoteA_snoc]; rfl
      have HQS := Lib.hid hqs
      have HPQ := Lib.hid hpq
      clear hpq hqs hts hcc hkp hown HO HK
      go_wp2_with (first | (go_at_call 72; refine HPQ.out.mono ?_; rintro e w2 ⟨rfl, hk2⟩) | (at_builtin; refine wpList_appT rfl _ _ rfl w.heap.size _ _ rfl (HO2.out.kept hk2) _ _ rfl rfl (by simp only [List.length_cons]; omega) (Nat.le_trans hsz hk2.size) ?_; intro v3 w3 hown3 hg3; refine Hid.out ?_))
      have HO3 := Lib.hid hown3
      have HK3 := Lib.hid (Kept.app (HK2.out.trans hk2) (HO2.out.kept hk2) (Nat.le_refl _) hg3)
      clear hown3 hg3 hk2
      refine Lib.hid ?_
      go_wp2
      go_roundw
      case rel => exact ⟨k + 1, by omega, by go_num, by rw [HQS.out]; exact HO3.out, HK3.out⟩
      case measure => simp [intOf]; omega
    · obtain rfl : k = n := by omega
      have htt : b.take k = b := List.take_of_length_le (by rw [← HN.out]; exact Nat.le_refl _)
      rw [htt] at HO2 hql htk
      have hq0 : 34 :: quoteA b ++ [34] = quote b := rfl
      have HQ := Lib.hid hq0
      clear hq0
      clear hown hkp HO HK htt
      go_wp2_with (at_builtin; refine wpList_appL rfl _ _ rfl w.heap.size _ _ rfl (OwnM.alloc HO2.out _) _ [34] rfl (bytes_fresh wr [34]) (by simp only [List.length_cons, List.length_nil]; omega) (Nat.le_succ_of_le hsz |> fun h => by simpa using h) ?_; intro v3 w3 hown3 hg3; refine Hid.out ?_)
      have hk3 := Kept.app (HK2.out.trans (Kept.allocd wr _)) (OwnM.alloc HO2.out _) (Nat.le_refl _) hg3
      obtain ⟨ap3, cap3, rfl, _⟩ := hown3.bytes.parts
      have hcv := conv_bytes (P := Tryz.prog) w3 43 9 5 Tryz.underlying43 Tryz.underlying5 Tryz.underlying9 cap3 (RowV.holds hown3.bytes).1
      rw [HQ.out] at hcv ⊢
      have HK3 := Lib.hid hk3
      clear hown3 hg3 hk3
      refine Lib.hid ?_
      go_wp2
      go_ret
      exact ⟨rfl, HK3.out⟩
end Go.Proofs.YtdinkdmkbfbjbaaGreatDoor
namespace Go.Proofs.YtdinkdmkbfbjbaaGreatDoor
open Go.RowKit
attribute [local go_sem] fold_part fold_some fold_some' partAt_zero

def hexI (c : UInt8) : Int := if c ∈ hexd then (dval c : Int) else -1
theorem hexI_hit (k : Nat) (hk : k < 16) : hexI (hx k) = k := by
  have key : ∀ k : Fin 16, hexI (hx k.1) = k.1 := by decide
  exact key ⟨k, hk⟩
theorem hexI_miss {c : UInt8} (h : ∀ k, k < 16 → hx k ≠ c) : hexI c = -1 := by
  unfold hexI
  rw [if_neg]
  intro hc
  have e : hexd = (List.range 16).map hx := by decide
  rw [e, List.mem_map] at hc
  obtain ⟨k, hk, e⟩ := hc
  exact h k (List.mem_range.1 hk) e

set_option maxRecDepth 100000 in
theorem rhex (c : UInt8) (w : World) : Calls Tryz.prog 70 #[.int .u8 c.toNat] w fun e w' => e = .returned (.int .i64 (hexI c)) ∧ w = w' := by
  generalize hM : hexI c = M
  have HM := Lib.hid hM
  clear hM
  go_enter Tryz.func70, Tryz.ntmps70
  go_wp2
  go_loopw [3] (fun vi wr => ∃ k : Nat, k ≤ 16 ∧ vi = .int .i64 k ∧ (∀ j, j < k → hx j ≠ c) ∧ w = wr) (fun vi _ => 16 - (intOf vi).toNat)
  case atStart => exact ⟨0, Nat.zero_le _, rfl, fun j h => absurd h (Nat.not_lt_zero _), rfl⟩
  case round =>
    obtain ⟨k, hk, rfl, hno, rfl⟩ := hrel
    have HNO := Lib.hid hno
    clear hno
    by_cases hlt : k < 16
    · obtain ⟨hp, hd⟩ := digit_idx k hlt
      have hltI : (k : Int) < 16 := by omega
      obtain ⟨d, hdd⟩ : ∃ d, d = hx k := ⟨_, rfl⟩
      rw [← hdd] at hd
      have HDD := Lib.hid hdd
      clear hdd
      by_cases he : d = c
      · obtain rfl : (k : Int) = M := by rw [← HM.out, ← he, HDD.out, hexI_hit k hlt]
        have heI : (d.toNat : Int) = (c.toNat : Int) := by rw [he]
        clear he HM
        go_wp2
        go_ret
        trivial
      · have heI : ¬ ((d.toNat : Int) = (c.toNat : Int)) := fun e => he (UInt8.toNat_inj.1 (by omega))
        have HE := Lib.hid he
        clear he
        go_wp2
        go_roundw
        case rel =>
          refine ⟨k + 1, by omega, by go_num, fun j hj => ?_, trivial⟩
          rcases Nat.lt_succ_iff_lt_or_eq.1 hj with h | rfl
          · exact HNO.out j h
          · rw [← HDD.out]; exact HE.out
        case measure => simp [intOf]; omega
    · obtain rfl : -1 = M := by rw [← HM.out, hexI_miss (fun j hj => HNO.out j (by omega))]
      have hltI : ¬ (k : Int) < 16 := by omega
      go_wp2
      go_ret
      trivial

def mayS (s : Bs) : Bool := (List.range 256).any fun c => special c && decide ([hx (c / 16), hx (c % 16)].take s.length = s)
theorem mayS_one (a : UInt8) : mayS [a] = may1 a := by
  unfold mayS may1
  congr 1
  funext c
  congr 1
  simp [Bool.beq_eq_decide_eq]
theorem mayS_two (a b : UInt8) : mayS [a, b] = may2 a b := by
  unfold mayS may2
  congr 1
  funext c
  rw [Bool.and_assoc]
  congr 1
  simp [Bool.beq_eq_decide_eq]
theorem four_all : ((List.range 256).all fun k => if special k then quotedC (UInt8.ofNat k) == [92, 120, hx (k / 16), hx (k % 16)] else (quotedC (UInt8.ofNat k)).length != 4) = true := by decide +kernel
theorem four_of {k : Nat} (hk : k < 256) (h : special k = true) : quotedC (UInt8.ofNat k) = [92, 120, hx (k / 16), hx (k % 16)] := by
  have := List.all_eq_true.1 four_all k (List.mem_range.2 hk)
  rw [if_pos h] at this
  simpa using this
theorem not_four {k : Nat} (hk : k < 256) (h : special k = false) : (quotedC (UInt8.ofNat k)).length ≠ 4 := by
  have := List.all_eq_true.1 four_all k (List.mem_range.2 hk)
  rw [if_neg (by rw [h]; decide)] at this
  simpa using this

theorem any_snoc (p : Nat → Bool) (k : Nat) : (List.range (k + 1)).any p = ((List.range k).any p || p k) := by
  rw [List.range_succ, List.any_append]; simp

set_option maxRecDepth 100000 in
theorem rmay (s : Bs) (hs : 1 ≤ s.length ∧ s.length ≤ 2) (w : World) : Calls Tryz.prog 71 #[.string ⟨s.toArray⟩] w fun e w' => e = .returned (.bool (mayS s)) ∧ Kept NoBlock w w' := by
  obtain ⟨hs1, hs2⟩ := hs
  generalize hM : mayS s = M
  unfold mayS at hM
  obtain ⟨p, hp⟩ : ∃ p : Nat → Bool, p = fun c => special c && decide ([hx (c / 16), hx (c % 16)].take s.length = s) := ⟨_, rfl⟩
  rw [← hp] at hM
  have hpk := fun k => congrFun hp k
  obtain ⟨S, hS⟩ : ∃ S : ByteArray, S = ⟨s.toArray⟩ := ⟨_, rfl⟩
  have hSz := str_size hS
  rw [← hS]
  obtain ⟨n, hn⟩ : ∃ n, n = s.length := ⟨_, rfl⟩
  rw [← hn] at hSz hs1 hs2
  have HM := Lib.hid hM
  have HP := Lib.hid hpk
  have HS := Lib.hid hS
  have HN := Lib.hid hn
  clear hM hp hpk hS hn
  go_enter Tryz.func71, Tryz.ntmps71
  go_wp2
  go_loopw [3] (fun vi wr => ∃ k : Nat, k ≤ 256 ∧ vi = .int .i64 k ∧ (List.range k).any p = false ∧ Kept NoBlock w wr) (fun vi _ => 256 - (intOf vi).toNat)
  case atStart => exact ⟨0, Nat.zero_le _, rfl, rfl, Kept.refl _ _⟩
  case round =>
    obtain ⟨k, hk, rfl, hno, hkp⟩ := hrel
    have HNO := Lib.hid hno
    have HK := Lib.hid hkp
    clear hno hkp
    by_cases hlt : k < 256
    · have hltI : (k : Int) < 256 := by omega
      have hw : IntKind.u8.wrap (k : Int) = (k : Int) := by simp [IntKind.wrap, IntKind.bits, IntKind.signed]; omega
      have hto : (UInt8.ofNat k).toNat = k := by simp; omega
      have hone := rone (UInt8.ofNat k) wr
      rw [hto] at hone
      obtain ⟨T, hT⟩ : ∃ T : ByteArray, T = ⟨(quotedC (UInt8.ofNat k)).toArray⟩ := ⟨_, rfl⟩
      have hTz := str_size hT
      rw [← hT] at hone
      have HON := Lib.hid hone
      cases hsp : special k with
      | false =>
        have h4 := not_four hlt hsp
        have hpf : p k = false := by rw [HP.out, hsp]; rfl
        have hT4 : ¬ ((T.size : Int) = 4) := by omega
        have HPF := Lib.hid hpf
        clear hone hto hT hTz h4 hsp hpf
        go_wp2_with (go_at_call 72; refine HON.out.mono ?_; rintro e w2 ⟨rfl, hk2⟩)
        go_roundw
        case rel => exact ⟨k + 1, by omega, by go_num, by rw [any_snoc, HNO.out, HPF.out]; rfl, HK.out.trans hk2⟩
        case measure => simp [intOf]; omega
      | true =>
        have h4 := four_of hlt hsp
        have hT4 : T.size = 4 := by rw [hTz, h4]; rfl
        have hext : T.extract 2 (2 + n) = ⟨([hx (k / 16), hx (k % 16)].take n).toArray⟩ := by
          rw [hT, h4, str_part]
          rcases (by omega : n = 1 ∨ n = 2) with rfl | rfl <;> rfl
        have hpk : p k = decide (T.extract 2 (2 + n) = S) := by
          rw [HP.out, hsp, hext, HS.out, ← HN.out, Bool.true_and]
          congr 1
          rw [eq_iff_iff]
          constructor
          · intro h; rw [h]
          · intro h; have := congrArg (fun b : ByteArray => b.data.toList) h; simpa using this
        obtain ⟨X, hX⟩ : ∃ X : ByteArray, X = T.extract 2 (2 + n) := ⟨_, rfl⟩
        rw [← hX] at hpk
        have HPK := Lib.hid hpk
        have hX' := hX.symm
        clear hone hto hT hTz h4 hsp hpk hext hX
        by_cases he : X = S
        · have heb : (X.toList == S.toList) = true := by rw [he]; simp
          have heb' : X.toList = S.toList := by rw [he]
          have HE := Lib.hid he
          clear he
          go_wp2_with (go_at_call 72; refine HON.out.mono ?_; rintro e w2 ⟨rfl, hk2⟩)
          obtain rfl : true = M := by
            rw [← HM.out, eq_comm, List.any_eq_true]
            exact ⟨k, List.mem_range.2 hlt, by rw [HPK.out, HE.out]; simp⟩
          go_ret
          exact ⟨rfl, HK.out.trans hk2⟩
        · have hpf : p k = false := by rw [HPK.out]; simpa using he
          have HPF := Lib.hid hpf
          have heb' : ¬ (X.toList = S.toList) := fun h => he (by rw [Go.ByteArray.toList_eq, Go.ByteArray.toList_eq] at h; exact ByteArray.ext (Array.toList_inj.1 h))
          have heb : (X.toList == S.toList) = false := by rw [beq_eq_false_iff_ne]; exact heb'
          clear hpf he
          go_wp2_with (go_at_call 72; refine HON.out.mono ?_; rintro e w2 ⟨rfl, hk2⟩)
          go_roundw
          case rel => exact ⟨k + 1, by omega, by go_num, by rw [any_snoc, HNO.out, HPF.out]; rfl, HK.out.trans hk2⟩
          case measure => simp [intOf]; omega
    · obtain rfl : k = 256 := by omega
      obtain rfl : false = M := by rw [← HM.out, HNO.out]
      go_wp2
      go_ret
      exact ⟨rfl, HK.out⟩
end Go.Proofs.YtdinkdmkbfbjbaaGreatDoor
namespace Go.Proofs.YtdinkdmkbfbjbaaGreatDoor
open Go.RowKit
attribute [local go_sem] fold_part fold_some fold_some' partAt_zero

def hexAt (l : Bs) (k : Nat) : Bool := match l[k]? with | none => false | some c => decide (0 ≤ hexI c) && mayS ((l.take (k + 1)).drop 1)

theorem hexI_al {a : UInt8} (h : a ∈ hexd) : hexI a = dval a := by unfold hexI; rw [if_pos h]
theorem hexI_neg {a : UInt8} (h : a ∉ hexd) : hexI a = -1 := by unfold hexI; rw [if_neg h]
theorem al1_in {a : UInt8} (h : a ∈ al1) : a ∈ hexd := by
  have := List.all_eq_true.1 al1_hex a h
  simpa using this
theorem dval_lt {a : UInt8} (h : a ∈ hexd) : dval a < 16 := List.idxOf_lt_length_of_mem h
theorem hexAt_one (c : UInt8) (r : Bs) : hexAt (c :: r) 1 = match r with | [] => false | a :: _ => decide (a ∈ al1) := by
  cases r with
  | nil => rfl
  | cons a r =>
    show (decide (0 ≤ hexI a) && mayS [a]) = _
    rw [mayS_one, may1_eq]
    by_cases h : a ∈ al1
    · rw [hexI_al (al1_in h)]; simp [h]
    · simp [h]
theorem hexAt_two (c a b : UInt8) (r : Bs) (ha : a ∈ al1) : hexAt (c :: a :: b :: r) 2 = decide (b ∈ al2 (dval a)) := by
  show (decide (0 ≤ hexI b) && mayS [a, b]) = _
  rw [mayS_two, may2_eq a b ha]
  by_cases h : b ∈ al2 (dval a)
  · rw [hexI_al (al2_hex _ _ h)]; simp [h]
  · simp [h]

theorem hexS_one {c : UInt8} {r : Bs} (h : hexAt (c :: r) 1 = false) : hexS r = .error 1 := by
  rw [hexAt_one] at h
  cases r with
  | nil => rfl
  | cons a r => unfold hexS; simp only [decide_eq_false_iff_not] at h; simp [h]
theorem hexS_two {c : UInt8} {r : Bs} (h1 : hexAt (c :: r) 1 = true) (h : hexAt (c :: r) 2 = false) : hexS r = .error 2 := by
  rw [hexAt_one] at h1
  cases r with
  | nil => cases h1
  | cons a r =>
    simp only [decide_eq_true_eq] at h1
    unfold hexS
    simp only [if_pos h1]
    cases r with
    | nil => rfl
    | cons b r => rw [hexAt_two _ _ _ _ h1] at h; simp only [decide_eq_false_iff_not] at h; simp [h]
theorem hexS_three {c : UInt8} {r : Bs} (h1 : hexAt (c :: r) 1 = true) (h : hexAt (c :: r) 2 = true) :
    ∃ a b r', r = a :: b :: r' ∧ a ∈ hexd ∧ b ∈ hexd ∧ hexS r = .ok (UInt8.ofNat (dval a * 16 + dval b), 3) := by
  rw [hexAt_one] at h1
  cases r with
  | nil => cases h1
  | cons a r =>
    simp only [decide_eq_true_eq] at h1
    cases r with
    | nil => cases h
    | cons b r =>
      rw [hexAt_two _ _ _ _ h1] at h
      simp only [decide_eq_true_eq] at h
      refine ⟨a, b, r, rfl, al1_in h1, al2_hex _ _ h, ?_⟩
      unfold hexS
      simp only [if_pos h1, if_pos h]

/-- What the document's 'escaped' hands back. -/
def escV : Except Nat (UInt8 × Nat) → Value
  | .ok (x, n) => .tuple #[.int .u8 x.toNat, .int .i64 n, .bool true]
  | .error n => .tuple #[.int .u8 0, .int .i64 n, .bool false]

theorem escS_at {c : UInt8} {r : Bs} (h1 : c ≠ 114) (h2 : c ≠ 110) (h3 : c ≠ 116) (h4 : c ≠ 34) (h5 : c ≠ 92) : escS (c :: r) = if c = 120 then hexS r else .error 0 := by
  unfold escS; simp [h1, h2, h3, h4, h5]

theorem u8_neI {c d : UInt8} (h : c ≠ d) : ¬ ((c.toNat : Int) = (d.toNat : Int)) := fun e => h (UInt8.toNat_inj.1 (by omega))

set_option maxRecDepth 100000 in
theorem rescaped0 (l : Bs) (M : Except Nat (UInt8 × Nat)) (hM : escS l = M) (hx : ∀ r, l ≠ 120 :: r) (w : World) :
    Calls Tryz.prog 44 #[.string ⟨l.toArray⟩] w fun e w' => e = .returned (escV M) ∧ Kept NoBlock w w' := by
  cases l with
  | nil =>
    obtain rfl := hM
    go_enter Tryz.func44, Tryz.ntmps44
    go_wp2
    go_ret3
    exact ⟨rfl, Kept.refl _ _⟩
  | cons c r =>
    obtain ⟨S, hS⟩ : ∃ S : ByteArray, S = ⟨(c :: r).toArray⟩ := ⟨_, rfl⟩
    obtain ⟨h0, e0⟩ := str_at hS (i := 0) (c := c) rfl
    have hSz := str_size hS
    rw [List.length_cons] at hSz
    have hne : S.toList.isEmpty = false := by rw [Go.ByteArray.toList_eq, hS]; simp
    have hSs : ¬ (S.size = 0) := by omega
    have hc120 : c ≠ 120 := fun e => hx r (by rw [e])
    rw [← hS]
    clear hS hx hSz
    by_cases h1 : c = 114
    · subst h1
      obtain rfl : .ok (13, 1) = M := by rw [← hM]; unfold escS; simp
      clear hM
      go_enter Tryz.func44, Tryz.ntmps44
      go_wp2
      go_ret3
      exact ⟨rfl, Kept.refl _ _⟩
    by_cases h2 : c = 110
    · subst h2
      obtain rfl : .ok (10, 1) = M := by rw [← hM]; unfold escS; simp
      clear hM
      go_enter Tryz.func44, Tryz.ntmps44
      go_wp2
      go_ret3
      exact ⟨rfl, Kept.refl _ _⟩
    by_cases h3 : c = 116
    · subst h3
      obtain rfl : .ok (9, 1) = M := by rw [← hM]; unfold escS; simp
      clear hM
      go_enter Tryz.func44, Tryz.ntmps44
      go_wp2
      go_ret3
      exact ⟨rfl, Kept.refl _ _⟩
    by_cases h4 : c = 34
    · subst h4
      obtain rfl : .ok (34, 1) = M := by rw [← hM]; unfold escS; simp
      clear hM
      go_enter Tryz.func44, Tryz.ntmps44
      go_wp2
      go_ret3
      exact ⟨rfl, Kept.refl _ _⟩
    by_cases h5 : c = 92
    · subst h5
      obtain rfl : .ok (92, 1) = M := by rw [← hM]; unfold escS; simp
      clear hM
      go_enter Tryz.func44, Tryz.ntmps44
      go_wp2
      go_ret3
      exact ⟨rfl, Kept.refl _ _⟩
    · rw [escS_at h1 h2 h3 h4 h5, if_neg hc120] at hM
      subst hM
      have k1 := u8_neI h1
      have k2 := u8_neI h2
      have k3 := u8_neI h3
      have k4 := u8_neI h4
      have k5 := u8_neI h5
      have k6 := u8_neI hc120
      simp only [show ((114 : UInt8).toNat : Int) = 114 from rfl, show ((110 : UInt8).toNat : Int) = 110 from rfl, show ((116 : UInt8).toNat : Int) = 116 from rfl, show ((34 : UInt8).toNat : Int) = 34 from rfl, show ((92 : UInt8).toNat : Int) = 92 from rfl, show ((120 : UInt8).toNat : Int) = 120 from rfl] at k1 k2 k3 k4 k5 k6
      clear h1 h2 h3 h4 h5 hc120
      go_enter Tryz.func44, Tryz.ntmps44
      go_wp2
      go_ret3
      exact ⟨rfl, Kept.refl _ _⟩
end Go.Proofs.YtdinkdmkbfbjbaaGreatDoor
namespace Go.Proofs.YtdinkdmkbfbjbaaGreatDoor
open Go.RowKit
attribute [local go_sem] fold_part fold_some fold_some' partAt_zero

theorem escS_hex (r : Bs) : escS (120 :: r) = hexS r := by unfold escS; simp

set_option maxRecDepth 100000 in
set_option maxHeartbeats 1600000 in
theorem rescaped1 (r : Bs) (hr : r.length ≤ 100000) (M : Except Nat (UInt8 × Nat)) (hM : hexS r = M) (w : World) :
    Calls Tryz.prog 44 #[.string ⟨(120 :: r).toArray⟩] w fun e w' => e = .returned (escV M) ∧ Kept NoBlock w w' := by
  obtain ⟨l, hl⟩ : ∃ l, l = 120 :: r := ⟨_, rfl⟩
  obtain ⟨S, hS⟩ : ∃ S : ByteArray, S = ⟨l.toArray⟩ := ⟨_, rfl⟩
  obtain ⟨h0, e0⟩ := str_at hS (i := 0) (c := 120) (by rw [hl]; rfl)
  have hSz := str_size hS
  have hne : S.toList.isEmpty = false := by rw [Go.ByteArray.toList_eq, hS, hl]; simp
  have hS1 : 1 ≤ S.size := by omega
  have hS2 : S.size ≤ 100001 := by rw [hSz, hl, List.length_cons]; omega
  rw [← hl, ← hS]
  have HL := Lib.hid hl
  have HS := Lib.hid hS
  have HSZ := Lib.hid hSz
  have HM := Lib.hid hM
  clear hl hS hSz hM
  go_enter Tryz.func44, Tryz.ntmps44
  go_wp2
  go_loopw [5] (fun vi wr => ∃ k : Nat, 1 ≤ k ∧ k ≤ 3 ∧ vi = .int .i64 k ∧ (∀ j, 1 ≤ j → j < k → hexAt l j = true) ∧ Kept NoBlock w wr) (fun vi _ => 3 - (intOf vi).toNat)
  case atStart => exact ⟨1, Nat.le_refl _, by omega, rfl, fun j h1 h2 => absurd h2 (by omega), Kept.refl _ _⟩
  case round =>
    obtain ⟨k, hk1, hk3, rfl, hno, hkp⟩ := hrel
    have HNO := Lib.hid hno
    have HK := Lib.hid hkp
    clear hno hkp
    by_cases hlt : k ≤ 2
    · have hltI : (k : Int) ≤ 2 := by omega
      have hfail : hexAt l k = false → M = .error k := by
        intro hf
        have hl := HL.out
        subst hl
        rcases (by omega : k = 1 ∨ k = 2) with rfl | rfl
        · rw [← HM.out, hexS_one hf]
        · rw [← HM.out, hexS_two (HNO.out 1 (by omega) (by omega)) hf]
      have HF := Lib.hid hfail
      clear hfail
      by_cases hsz : S.size ≤ k
      · have hszI : (S.size : Int) ≤ (k : Int) := by omega
        have hf : hexAt l k = false := by
          unfold hexAt
          rw [List.getElem?_eq_none (by have := HSZ.out; omega)]
        obtain rfl := HF.out hf
        clear hf HF
        go_wp2
        go_ret3
        exact ⟨rfl, HK.out⟩
      · have hszI : ¬ (S.size : Int) ≤ (k : Int) := by omega
        have hkl : k < l.length := by have := HSZ.out; omega
        obtain ⟨c, hc⟩ : ∃ c, c = l[k] := ⟨_, rfl⟩
        have hck : l[k]? = some c := by rw [List.getElem?_eq_getElem hkl, hc]
        obtain ⟨hk0, ek⟩ := str_at HS.out hck
        have hhex := fun W => rhex c W
        have hmay := fun W => rmay ((l.take (k + 1)).drop 1) (by simp only [List.length_drop, List.length_take]; omega) W
        have hat : hexAt l k = (decide (0 ≤ hexI c) && mayS ((l.take (k + 1)).drop 1)) := by unfold hexAt; rw [hck]
        have hpart : S.extract 1 (k + 1) = ⟨((l.take (k + 1)).drop 1).toArray⟩ := by rw [HS.out, str_part]
        obtain ⟨X, hX⟩ : ∃ X : ByteArray, X = S.extract 1 (k + 1) := ⟨_, rfl⟩
        rw [← hpart, ← hX] at hmay
        have hX' := hX.symm
        have hlo : -1 ≤ hexI c := by unfold hexI; split <;> omega
        have hhi : hexI c ≤ 16 := by
          unfold hexI; split
          · next h => have := dval_lt h; omega
          · omega
        generalize hexI c = x at *
        generalize mayS ((l.take (k + 1)).drop 1) = m at *
        have HAT := Lib.hid hat
        clear hck hc hat hpart hX hkl
        by_cases hx : x < 0
        · have hf : hexAt l k = false := by rw [HAT.out]; simp [show ¬ (0 ≤ x) from by omega]
          obtain rfl := HF.out hf
          clear hf HF
          go_wp2_with (first | (go_at_call 70; refine (hhex _).mono ?_; rintro e w2 ⟨rfl, rfl⟩) | (go_at_call 71; refine (hmay _).mono ?_; rintro e w2 ⟨rfl, hk2⟩))
          go_ret3
          exact ⟨rfl, HK.out⟩
        · cases m with
          | false =>
            have hf : hexAt l k = false := by rw [HAT.out]; simp
            obtain rfl := HF.out hf
            clear hf HF
            go_wp2_with (first | (go_at_call 70; refine (hhex _).mono ?_; rintro e w2 ⟨rfl, rfl⟩) | (go_at_call 71; refine (hmay _).mono ?_; rintro e w2 ⟨rfl, hk2⟩))
            go_ret3
            exact ⟨rfl, HK.out.trans hk2⟩
          | true =>
            have hx0 : 0 ≤ x := by omega
            have ht : hexAt l k = true := by rw [HAT.out]; simp [hx0]
            have HT := Lib.hid ht
            clear ht HF
            go_wp2_with (first | (go_at_call 70; refine (hhex _).mono ?_; rintro e w2 ⟨rfl, rfl⟩) | (go_at_call 71; refine (hmay _).mono ?_; rintro e w2 ⟨rfl, hk2⟩))
            go_roundw
            case rel =>
              refine ⟨k + 1, by omega, by omega, by go_num, fun j h1 h2 => ?_, HK.out.trans hk2⟩
              rcases Nat.lt_succ_iff_lt_or_eq.1 h2 with h | rfl
              · exact HNO.out j h1 h
              · exact HT.out
            case measure => simp [intOf]; omega
    · obtain rfl : k = 3 := by omega
      have hl := HL.out
      obtain ⟨a, b, r', hr', ha, hb, hok⟩ := hexS_three (c := 120) (r := r) (by rw [← hl]; exact HNO.out 1 (by omega) (by omega)) (by rw [← hl]; exact HNO.out 2 (by omega) (by omega))
      have hMM : M = .ok (UInt8.ofNat (dval a * 16 + dval b), 3) := by rw [← HM.out, hok]
      obtain ⟨h1, e1⟩ := str_at HS.out (i := 1) (c := a) (by rw [hl, hr']; rfl)
      obtain ⟨h2, e2⟩ := str_at HS.out (i := 2) (c := b) (by rw [hl, hr']; rfl)
      have hha := fun W => rhex a W
      have hhb := fun W => rhex b W
      rw [hexI_al ha] at hha
      rw [hexI_al hb] at hhb
      have hla := dval_lt ha
      have hlb := dval_lt hb
      have hto : (UInt8.ofNat (dval a * 16 + dval b)).toNat = dval a * 16 + dval b := by simp; omega
      generalize dval a = x at *
      generalize dval b = y at *
      obtain ⟨z, hz⟩ : ∃ z, z = UInt8.ofNat (x * 16 + y) := ⟨_, rfl⟩
      rw [← hz] at hto hMM
      have HMM := Lib.hid hMM
      have q1 : IntKind.i64.wrap ((x : Int) * 16) = (x : Int) * 16 := IntWalk.i64_in _ (by omega)
      have q2 : IntKind.i64.wrap ((x : Int) * 16 + y) = (x : Int) * 16 + y := IntWalk.i64_in _ (by omega)
      have q3 : IntKind.u8.wrap ((x : Int) * 16 + y) = (x : Int) * 16 + y := by simp [IntKind.wrap, IntKind.bits, IntKind.signed]; omega
      have HTO := Lib.hid hto
      clear hMM hto hz hok hr' hl ha hb HM HL HNO
      have D1 := Lib.hid (fun W => (hha W).mono (R' := fun e w' => e = .returned (.int .i64 x) ∧ w' = W) (fun _ _ ⟨e, f⟩ => ⟨e, f.symm⟩))
      have D2 := Lib.hid (fun W => (hhb W).mono (R' := fun e w' => e = .returned (.int .i64 y) ∧ w' = W) (fun _ _ ⟨e, f⟩ => ⟨e, f.symm⟩))
      have h2I : (2 : Int) < (S.size : Int) := by omega
      have h1I : (1 : Int) < (S.size : Int) := by omega
      clear hha hhb
      go_wp2
      go_quiet ((go_at_call 70; first | (with_reducible exact Calls.quiet_of_same (D1.out _)) | (with_reducible exact Calls.quiet_of_same (D2.out _))))
      go_wp2
      go_ret3
      refine ⟨?_, HK.out.drewN _⟩
      rw [HMM.out]
      unfold escV
      simp only
      rw [HTO.out]
      simp
end Go.Proofs.YtdinkdmkbfbjbaaGreatDoor
namespace Go.Proofs.YtdinkdmkbfbjbaaGreatDoor
open Go.RowKit
attribute [local go_sem] fold_part fold_some fold_some' partAt_zero

theorem rescaped (r : Bs) (hr : r.length ≤ 100000) (w : World) :
    Calls Tryz.prog 44 #[.string ⟨r.toArray⟩] w fun e w' => e = .returned (escV (escS r)) ∧ Kept NoBlock w w' := by
  by_cases h : ∃ t, r = 120 :: t
  · obtain ⟨t, rfl⟩ := h
    exact rescaped1 t (by simp only [List.length_cons] at hr; omega) _ (escS_hex t).symm w
  · exact rescaped0 r _ rfl (fun t e => h ⟨t, e⟩) w

theorem hexS_le {r : Bs} : ∀ {M}, hexS r = M → (∀ n, M = .error n → 1 ≤ n ∧ n ≤ 2) ∧ ∀ x n, M = .ok (x, n) → n = 3 ∧ 2 ≤ r.length := by
  rintro M rfl
  unfold hexS
  split
  · exact ⟨fun n h => by cases h; omega, fun x n h => by cases h⟩
  · split
    · split
      · exact ⟨fun n h => by cases h; omega, fun x n h => by cases h⟩
      · split
        · exact ⟨fun n h => (by cases h), fun x n h => (by cases h; simp)⟩
        · exact ⟨fun n h => by cases h; omega, fun x n h => by cases h⟩
    · exact ⟨fun n h => by cases h; omega, fun x n h => by cases h⟩
theorem escS_le (r : Bs) : (∀ n, escS r = .error n → n ≤ 2) ∧ ∀ x n, escS r = .ok (x, n) → 1 ≤ n ∧ n ≤ r.length := by
  cases r with
  | nil => exact ⟨fun n h => by cases h; omega, fun x n h => by cases h⟩
  | cons c r =>
    have hh := hexS_le (r := r) rfl
    have key : ∀ M, escS (c :: r) = M → (∀ n, M = .error n → n ≤ 2) ∧ ∀ x n, M = .ok (x, n) → 1 ≤ n ∧ n ≤ (c :: r).length := by
      rintro M rfl
      unfold escS
      simp only [List.length_cons]
      split
      · exact ⟨fun n h => (by cases h), fun x n h => (by cases h; omega)⟩
      split
      · exact ⟨fun n h => (by cases h), fun x n h => (by cases h; omega)⟩
      split
      · exact ⟨fun n h => (by cases h), fun x n h => (by cases h; omega)⟩
      split
      · exact ⟨fun n h => (by cases h), fun x n h => (by cases h; omega)⟩
      split
      · exact ⟨fun n h => (hh.1 n h).2, fun x n h => (by have := hh.2 x n h; omega)⟩
      · exact ⟨fun n h => (by cases h; omega), fun x n h => (by cases h)⟩
    exact key _ rfl

theorem unqA_nil (i : Nat) (b : Bs) : unqA i b [] = .error i := by rw [unqA.eq_def]
theorem unqA_end (i : Nat) (b : Bs) : unqA i b [34] = .ok b := by rw [unqA.eq_def]; simp
theorem unqA_more (i : Nat) (b r : Bs) (h : r ≠ []) : unqA i b (34 :: r) = .error (i + 1) := by rw [unqA.eq_def]; simp [h]
theorem unqA_bad (i : Nat) (b r : Bs) {c : UInt8} (h : c.toNat < 32 ∨ 126 < c.toNat) (h3 : c ≠ 34) : unqA i b (c :: r) = .error i := by rw [unqA.eq_def]; simp [h, h3]
theorem unqA_plain (i : Nat) (b r : Bs) {c : UInt8} (h : ¬ (c.toNat < 32 ∨ 126 < c.toNat)) (h3 : c ≠ 34) (h9 : c ≠ 92) : unqA i b (c :: r) = unqA (i + 1) (b ++ [c]) r := by
  rw [unqA.eq_def]; simp only; rw [if_neg h3, if_neg h, if_pos h9]
theorem unqA_err (i : Nat) (b r : Bs) {n : Nat} (h : escS r = .error n) : unqA i b (92 :: r) = .error (i + 1 + n) := by
  rw [unqA.eq_def]; simp only; rw [if_neg (by decide), if_neg (by decide), if_neg (by decide), h]
theorem unqA_esc (i : Nat) (b r : Bs) {x : UInt8} {n : Nat} (h : escS r = .ok (x, n)) : unqA i b (92 :: r) = unqA (i + 1 + n) (b ++ [x]) (r.drop n) := by
  rw [unqA.eq_def]; simp only; rw [if_neg (by decide), if_neg (by decide), if_neg (by decide), h]

/-- What an 'Unquote' leaves. -/
def UnqEnd (M : Except Nat Bs) (w : World) (e : Ending) (w' : World) : Prop :=
  Kept NoBlock w w' ∧ match M with
  | .ok b => ∃ v, e = .returned (.tuple #[v, .int .i64 0, .int .i64 0]) ∧ OwnT w' w.heap.size v b
  | .error n => e = .returned (.tuple #[.slice none 0 0, .int .i64 n, .int .i64 250])

set_option maxRecDepth 100000 in
set_option maxHeartbeats 3200000 in
theorem runq (l : Bs) (hl : l.length ≤ 20000) (w : World) :
    Calls Tryz.prog 27 #[.string ⟨l.toArray⟩] w (UnqEnd (unq l) w) := by
  generalize hM : unq l = M
  obtain ⟨S, hS⟩ : ∃ S : ByteArray, S = ⟨l.toArray⟩ := ⟨_, rfl⟩
  have hSz := str_size hS
  have hS6 : S.size ≤ 20000 := by omega
  rw [← hS]
  have HS := Lib.hid hS
  have HSZ := Lib.hid hSz
  cases hl0 : l with
  | nil =>
    obtain rfl : .error 0 = M := by rw [← hM, hl0]; rfl
    have hne : S.toList.isEmpty = true := by rw [Go.ByteArray.toList_eq, hS, hl0]; rfl
    have h00 : S.size = 0 := by rw [hSz, hl0]; rfl
    have hge : S.toList = [] := by rw [Go.ByteArray.toList_eq, hS, hl0]
    clear hS hSz hM hl0
    go_enter Tryz.func27, Tryz.ntmps27
    go_wp2
    go_ret3
    exact ⟨Kept.refl _ _, rfl⟩
  | cons c0 r0 =>
    have hne : S.toList.isEmpty = false := by rw [Go.ByteArray.toList_eq, hS, hl0]; rfl
    obtain ⟨h0, e0⟩ := str_at hS (i := 0) (c := c0) (by rw [hl0]; rfl)
    by_cases hc0 : c0 = 34
    · subst hc0
      have hM1 : unqA 1 [] (l.drop 1) = M := by rw [← hM, hl0]; unfold unq; simp
      have HM0 := Lib.hid hM1
      clear hS hSz hM hl0 hM1
      go_enter Tryz.func27, Tryz.ntmps27
      go_wp2
      go_loopw [5, 6] (fun vb vi wr => ∃ (i : Nat) (xs : Bs), vi = .int .i64 i ∧ 1 ≤ i ∧ i ≤ S.size ∧ OwnT wr w.heap.size vb xs ∧ unqA i xs (l.drop i) = M ∧ xs.length ≤ i ∧ Kept NoBlock w wr) (fun _ vi _ => S.size - (intOf vi).toNat)
      case atStart => exact ⟨1, [], rfl, Nat.le_refl _, h0, OwnT.nil _ _, HM0.out, Nat.zero_le _, Kept.refl _ _⟩
      case round =>
        obtain ⟨i, xs, rfl, hi1, hi, hown, hM, hx, hK⟩ := hrel
        have HO := Lib.hid hown
        have HM := Lib.hid hM
        have HK := Lib.hid hK
        have hsz := hK.size
        clear hown hM hK HM0
        by_cases hlt : i < S.size
        · have hil : i < l.length := by have := HSZ.out; omega
          have hdc := drop_cons hil
          obtain ⟨c, hc⟩ : ∃ c, c = l[i] := ⟨_, rfl⟩
          obtain ⟨r, hr⟩ : ∃ r, r = l.drop (i + 1) := ⟨_, rfl⟩
          have hci : l[i]? = some c := by rw [List.getElem?_eq_getElem hil, hc]
          rw [← hc, ← hr] at hdc
          obtain ⟨hii, ei⟩ := str_at HS.out (i := i) (c := c) hci
          have hrl : r.length = S.size - (i + 1) := by rw [hr, List.length_drop]; have := HSZ.out; omega
          have HR := Lib.hid hr
          have HRL := Lib.hid hrl
          have hM := HM.out
          rw [hdc] at hM
          have HM2 := Lib.hid hM
          have hltI : (i : Int) < (S.size : Int) := by omega
          clear hr hdc hc hci HM hM hrl
          by_cases h34 : c = 34
          · subst h34
            by_cases hlast : i + 1 < S.size
            · obtain rfl : .error (i + 1) = M := by rw [← HM2.out, unqA_more _ _ _ (fun e => by have := HRL.out; rw [e] at this; simp only [List.length_nil] at this; omega)]
              have hlI : (i : Int) + 1 < (S.size : Int) := by omega
              go_wp2
              go_ret3
              exact ⟨HK.out, rfl⟩
            · have hr0 : r = [] := List.eq_nil_of_length_eq_zero (by have := HRL.out; omega)
              obtain rfl : .ok xs = M := by rw [← HM2.out, hr0, unqA_end]
              have hlI : ¬ (i : Int) + 1 < (S.size : Int) := by omega
              clear hr0
              go_wp2
              go_ret3
              exact ⟨HK.out, _, rfl, HO.out⟩
          · have k34 : ¬ ((c.toNat : Int) = 34) := u8_neI h34
            by_cases hbad : c.toNat < 32 ∨ 126 < c.toNat
            · obtain rfl : .error i = M := by rw [← HM2.out, unqA_bad _ _ _ hbad h34]
              have hb' : (c.toNat : Int) < 32 ∨ ((32 : Int) ≤ (c.toNat : Int) ∧ (126 : Int) < (c.toNat : Int)) := by omega
              clear hbad
              rcases hb' with hb' | ⟨hb', hb''⟩
              all_goals
                go_wp2
                go_ret3
                exact ⟨HK.out, rfl⟩
            · have hb1 : (32 : Int) ≤ (c.toNat : Int) := by omega
              have hb2 : (c.toNat : Int) ≤ 126 := by omega
              by_cases h92 : c = 92
              · subst h92
                have hext : S.extract (i + 1) S.size = ⟨r.toArray⟩ := by rw [HR.out, HSZ.out, HS.out, str_drop]
                have hesc := fun W => rescaped r (by have := HRL.out; omega) W
                rw [← hext] at hesc
                have hle := escS_le r
                have HESC := Lib.hid hesc
                have hi63 : i ≤ 20000 := by omega
                clear hesc hext hb1 hb2 hbad h34 k34
                cases hE : escS r with
                | error n =>
                  have hn := hle.1 n hE
                  obtain rfl : .error (i + 1 + n) = M := by rw [← HM2.out, unqA_err _ _ _ hE]
                  clear hle HM2
                  rw [hE] at HESC
                  clear hE
                  go_wp2_with (go_at_call 44; refine (HESC.out _).mono ?_; rintro e w2 ⟨rfl, hk2⟩; unfold escV)
                  go_ret3
                  exact ⟨HK.out.trans hk2, rfl⟩
                | ok xn =>
                  obtain ⟨x, n⟩ := xn
                  obtain ⟨hn1, hn2⟩ := hle.2 x n hE
                  have hM3 : unqA (i + 1 + n) (xs ++ [x]) (l.drop (i + 1 + n)) = M := by rw [← HM2.out, unqA_esc _ _ _ hE, HR.out, List.drop_drop]
                  have HM3 := Lib.hid hM3
                  have hn3 : i + 1 + n ≤ S.size := by have := HRL.out; omega
                  clear hle HM2 hM3
                  rw [hE] at HESC
                  clear hE
                  go_wp2_with (first | (go_at_call 44; refine (HESC.out _).mono ?_; rintro e w2 ⟨rfl, hk2⟩; unfold escV) | (at_builtin; refine wpList_appL rfl _ _ (by rfl) w.heap.size _ xs (by rfl) (OwnM.alloc (HO.out.kept hk2) _) _ [x] (by rfl) (bytes_fresh w2 [x]) (by simp only [List.length_cons, List.length_nil]; omega) (by have := hk2.size; simp; omega) ?_; intro v3 w3 hown3 hg3; refine Hid.out ?_))
                  have HO3 := Lib.hid hown3
                  have HK3 := Lib.hid (Kept.app (HK.out.trans (hk2.trans (Kept.allocd w2 _))) (OwnM.alloc (HO.out.kept hk2) _) (Nat.le_refl _) hg3)
                  clear hown3 hg3 hk2
                  refine Lib.hid ?_
                  go_wp2
                  go_roundw
                  case rel => exact ⟨i + 1 + n, xs ++ [x], by go_num, by omega, by omega, HO3.out, HM3.out, by rw [List.length_append, List.length_singleton]; omega, HK3.out⟩
                  case measure => simp [intOf]; omega
              · have k92 : ¬ ((c.toNat : Int) = 92) := u8_neI h92
                have hM3 : unqA (i + 1) (xs ++ [c]) (l.drop (i + 1)) = M := by rw [← HM2.out, unqA_plain _ _ _ hbad h34 h92, HR.out]
                have HM3 := Lib.hid hM3
                clear hbad hM3 HM2 h34 h92
                go_wp2_with (at_builtin; refine wpList_appL rfl _ _ (by rfl) w.heap.size _ xs (by rfl) (OwnM.alloc HO.out _) _ [c] (by rfl) (bytes_fresh wr [c]) (by simp only [List.length_cons, List.length_nil]; omega) (by simp; omega) ?_; intro v3 w3 hown3 hg3; refine Hid.out ?_)
                have HO3 := Lib.hid hown3
                have HK3 := Lib.hid (Kept.app (HK.out.trans (Kept.allocd wr _)) (OwnM.alloc HO.out _) (Nat.le_refl _) hg3)
                clear hown3 hg3
                refine Lib.hid ?_
                go_wp2
                go_roundw
                case rel => exact ⟨i + 1, xs ++ [c], by go_num, by omega, by omega, HO3.out, HM3.out, by rw [List.length_append, List.length_singleton]; omega, HK3.out⟩
                case measure => simp [intOf]; omega
        · obtain rfl : i = S.size := by omega
          obtain rfl : .error S.size = M := by rw [← HM.out, List.drop_of_length_le (by have := HSZ.out; omega), unqA_nil]
          go_wp2
          go_ret3
          exact ⟨HK.out, rfl⟩
    · have k0 : ¬ ((c0.toNat : Int) = 34) := u8_neI hc0
      obtain rfl : .error 0 = M := by rw [← hM, hl0]; unfold unq; simp [hc0]
      clear hS hSz hM hl0 hc0
      go_enter Tryz.func27, Tryz.ntmps27
      go_wp2
      go_ret3
      exact ⟨Kept.refl _ _, rfl⟩
end Go.Proofs.YtdinkdmkbfbjbaaGreatDoor
namespace Go.Proofs.YtdinkdmkbfbjbaaGreatDoor
open Go.RowKit
attribute [local go_sem] fold_part fold_some fold_some' partAt_zero

def faultE (n : Nat) : List PanicEntry := [{ v := .iface 84 (.agg #[.int .i64 n]), recovered := false }]

/-- The reader's block. -/
def Rdr (w : World) (g : Nat) (S : ByteArray) (i : Nat) : Prop := w.heap[g]? = some (.cells #[.string S, .int .i64 i] 90 (0, 0))
theorem Rdr.kept {w w' : World} {g : Nat} {S : ByteArray} {i : Nat} (h : Rdr w g S i) (hk : Kept NoBlock w w') : Rdr w' g S i := hk.heap h (fun h => h)

theorem blk2 {w : World} {g : Nat} {a b : Value} {T : TypeId} (h : w.heap[g]? = some (.cells #[a, b] T (0, 0))) :
    w.cell? ⟨g, 0, none⟩ = some a ∧ w.cell? ⟨g, 1, none⟩ = some b ∧ w.frozen? ⟨g, 0, none⟩ = false ∧ w.frozen? ⟨g, 1, none⟩ = false :=
  ⟨cellB h rfl, cellB h rfl, frozenB h 0, frozenB h 1⟩

theorem indexByte_eq (c : UInt8) : ∀ l : Bs, Lib.indexByte l c = if c ∈ l then (l.idxOf c : Int) else -1 := by
  intro l
  induction l with
  | nil => rfl
  | cons b l ih =>
    unfold Lib.indexByte
    rw [ih]
    by_cases hb : b = c
    · subst hb; simp
    · have hb' : (b == c) = false := by simpa using hb
      rw [hb']
      by_cases hc : c ∈ l
      · simp only [hc, if_true, List.mem_cons, or_true, List.idxOf_cons, hb']
        rw [if_neg (by decide)]
        have : ((l.idxOf c : Int) == -1) = false := by rw [beq_eq_false_iff_ne]; omega
        rw [this]
        simp
      · have : ¬ (c = b) := fun e => hb e.symm
        simp [hc, this]
theorem indexByte_hex (c : UInt8) : Lib.indexByte hexd c = hexI c := indexByte_eq c hexd

set_option maxRecDepth 100000 in
theorem pnext (g : Nat) (l : Bs) (i : Nat) (hl : l.length ≤ 20000) (hi : i ≤ l.length) (w : World) (h : Rdr w g ⟨l.toArray⟩ i) :
    Calls Tryz.prog 57 #[.pointer (some ⟨g, 0, none⟩)] w fun e w' => (e = match l[i]? with | some c => .returned (.int .u8 c.toNat) | none => .panicked (faultE i)) ∧ Kept NoBlock w w' := by
  obtain ⟨S, hS⟩ : ∃ S : ByteArray, S = ⟨l.toArray⟩ := ⟨_, rfl⟩
  have hSz := str_size hS
  have hS6 : S.size ≤ 20000 := by omega
  rw [← hS] at h
  obtain ⟨c0, c1, f0, f1⟩ := blk2 h
  cases hc : l[i]? with
  | none =>
    have hii : i = S.size := by rw [List.getElem?_eq_none_iff] at hc; omega
    subst hii
    clear hS h hc hi hSz
    go_enter Tryz.func57, Tryz.ntmps57
    go_wp2
    go_quiet (fail)
    go_wp2
    exact ⟨rfl, rfl, (Kept.refl _ _).drewN _⟩
  | some c =>
    obtain ⟨hi1, ei⟩ := str_at hS hc
    have hiI : (i : Int) < (S.size : Int) := by omega
    clear hS h hc hSz
    go_enter Tryz.func57, Tryz.ntmps57
    go_wp2
    go_quiet (fail)
    go_wp2
    go_quiet (fail)
    go_wp2
    go_ret
    exact ⟨rfl, ((Kept.refl _ _).drewN _).drewN _⟩

set_option maxRecDepth 100000 in
theorem pmust_no (g : Nat) (S : ByteArray) (i : Nat) (w : World) (h : Rdr w g S i) :
    Calls Tryz.prog 56 #[.pointer (some ⟨g, 0, none⟩), .bool false] w fun e w' => e = .panicked (faultE i) ∧ w = w' := by
  obtain ⟨c0, c1, f0, f1⟩ := blk2 h
  clear h
  go_enter Tryz.func56, Tryz.ntmps56
  go_wp2
  exact ⟨rfl, rfl, rfl⟩

set_option maxRecDepth 100000 in
theorem pmust_yes (g : Nat) (S : ByteArray) (i : Nat) (hi : i ≤ 20000) (w : World) (h : Rdr w g S i) :
    Calls Tryz.prog 56 #[.pointer (some ⟨g, 0, none⟩), .bool true] w fun e w' => e = .returned (.tuple #[]) ∧ Rdr w' g S (i + 1) ∧ Kept (fun k => k = g) w w' := by
  obtain ⟨c0, c1, f0, f1⟩ := blk2 h
  have h2 : Rdr (w.setCell ⟨g, 1, none⟩ (.int .i64 ((i : Int) + 1))) g S (i + 1) := heap_setCell_same h 1 _
  have H2 := Lib.hid h2
  clear h h2
  go_enter Tryz.func56, Tryz.ntmps56
  go_wp2
  exact ⟨rfl, _, results_none rfl _ _ _, rfl, H2.out, Kept.setCell (S := fun k => k = g) (Kept.refl _ w) (p := ⟨g, 1, none⟩) (fun _ => rfl) _⟩
end Go.Proofs.YtdinkdmkbfbjbaaGreatDoor
namespace Go.Proofs.YtdinkdmkbfbjbaaGreatDoor
open Go.RowKit
attribute [local go_sem] fold_part fold_some fold_some' partAt_zero

/-- How a reader's call ends that hands back a byte. -/
def REnd (g : Nat) (S : ByteArray) (i : Nat) (M : Except Nat (UInt8 × Nat)) (w : World) (e : Ending) (w' : World) : Prop :=
  Kept (fun k => k = g) w w' ∧ match M with
  | .error n => e = .panicked (faultE (i + n))
  | .ok (x, n) => e = .returned (.int .u8 x.toNat) ∧ Rdr w' g S (i + n)

def digS (al : Bs) : Bs → Except Nat (UInt8 × Nat)
  | [] => .error 0
  | c :: _ => if c ∈ al then .ok (UInt8.ofNat (dval c), 1) else .error 0

theorem pindex (al : Bs) (c : UInt8) (w : World) : Calls Tryz.prog 80 #[.string ⟨al.toArray⟩, .int .u8 c.toNat] w fun e w' => e = .returned (.int .i64 (Lib.indexByte al c)) ∧ w' = w := by
  have := Tryz.strings_IndexByte ⟨al.toArray⟩ (c.toNat : Int) w
  have ec : ((c.toNat : Int)).toNat.toUInt8 = c := by simp
  rw [ec] at this
  exact this

set_option maxRecDepth 100000 in
set_option maxHeartbeats 1600000 in
theorem pdigit (g : Nat) (al : Bs) (hal : ∀ c ∈ al, c ∈ hexd) (l : Bs) (i : Nat) (hl : l.length ≤ 20000) (hi : i ≤ l.length) (w : World) (h : Rdr w g ⟨l.toArray⟩ i) :
    Calls Tryz.prog 91 #[.pointer (some ⟨g, 0, none⟩), .string ⟨al.toArray⟩] w (REnd g ⟨l.toArray⟩ i (digS al (l.drop i)) w) := by
  obtain ⟨A, hA⟩ : ∃ A : ByteArray, A = ⟨al.toArray⟩ := ⟨_, rfl⟩
  have hix := fun c W => pindex al c W
  rw [← hA] at hix ⊢
  have hnx := pnext g l i hl hi w h
  have hmy := fun W h => pmust_yes g ⟨l.toArray⟩ i (by omega) W h
  have hmn := fun W h => pmust_no g ⟨l.toArray⟩ i W h
  obtain ⟨S, hS⟩ : ∃ S : ByteArray, S = ⟨l.toArray⟩ := ⟨_, rfl⟩
  rw [← hS] at h hmy hmn ⊢
  have HR := Lib.hid h
  have HMY := Lib.hid hmy
  have HMN := Lib.hid hmn
  generalize hM : digS al (l.drop i) = M
  have hi6 : i ≤ 20000 := by omega
  clear hA hS h hmy hmn
  by_cases hlt : i < l.length
  · obtain ⟨c, hc⟩ : ∃ c, c = l[i] := ⟨_, rfl⟩
    have hci : l[i]? = some c := by rw [List.getElem?_eq_getElem hlt, hc]
    rw [drop_cons hlt, ← hc] at hM
    rw [hci] at hnx
    simp only at hnx
    simp only [digS] at hM
    have hixc := hix c
    rw [indexByte_eq] at hixc
    have HNX := Lib.hid hnx
    have HIX := Lib.hid hixc
    have hhx := fun W => pindex hexd c W
    rw [indexByte_hex] at hhx
    clear hnx hixc hix hc hci hl hi hlt
    by_cases hin : c ∈ al
    · rw [if_pos hin] at hM HIX
      obtain rfl := hM
      rw [hexI_al (hal c hin)] at hhx
      have hdl := dval_lt (hal c hin)
      have hto : (UInt8.ofNat (dval c)).toNat = dval c := by simp; omega
      have hw8 : IntKind.u8.wrap (dval c : Int) = (dval c : Int) := by simp [IntKind.wrap, IntKind.bits, IntKind.signed]; omega
      have hx0 : (0 : Int) ≤ (al.idxOf c : Int) := by omega
      have HTO := Lib.hid hto
      have HHX := Lib.hid hhx
      generalize al.idxOf c = ix at *
      clear hal hin hhx hto
      go_enter Tryz.func91, Tryz.ntmps91
      go_wp2_with (go_at_call 57; refine HNX.out.mono ?_; rintro e w1 ⟨rfl, hk1⟩; refine Hid.out ?_)
      have hr1 := HR.out.kept hk1
      have HR1 := Lib.hid hr1
      have HK1 := Lib.hid hk1
      clear hr1 hk1
      refine Lib.hid ?_
      go_wp2
      refine wp_plan 0 [1, 2, 3, 4, 5, 6] 7 [] [] (by kernel_rfl) (by kernel_rfl) ?_
      simp only [wpPlan, pick, List.filterMap_cons, List.filterMap_nil, List.getElem?_cons_succ, List.getElem?_cons_zero]
      repeat (quiet_step ((go_at_call 80; exact Calls.quiet_of_same (HIX.out _))))
      refine wpQuiet_nil ?_
      rintro _ ⟨n1, rfl⟩
      go_wp2_with fail
      refine (HMY.out _ (HR1.out.kept ((Kept.refl _ _).drewN _))).mono ?_
      rintro e w3 ⟨rfl, hr3, hk3⟩
      have HR3 := Lib.hid hr3
      have HK3 := Lib.hid (Kept.trans (S := fun k => k = g) (HK1.out.anyS.drewN _) hk3)
      clear hr3 hk3
      go_wp2_with fail
      refine Halt.mk ?_
      go_wp2_with (go_at_call 80; refine (HHX.out _).mono ?_; rintro e w4 ⟨rfl, rfl⟩)
      go_ret
      refine ⟨HK3.out, ?_, HR3.out⟩
      rw [HTO.out]
      rfl
    · rw [if_neg hin] at hM HIX
      obtain rfl := hM
      have hx0 : ¬ ((0 : Int) ≤ -1) := by decide
      clear hal hin hhx
      go_enter Tryz.func91, Tryz.ntmps91
      go_wp2_with (go_at_call 57; refine HNX.out.mono ?_; rintro e w1 ⟨rfl, hk1⟩; refine Hid.out ?_)
      have hr1 := HR.out.kept hk1
      have HR1 := Lib.hid hr1
      have HK1 := Lib.hid hk1
      clear hr1 hk1
      refine Lib.hid ?_
      go_wp2
      refine wp_plan 0 [1, 2, 3, 4, 5, 6] 7 [] [] (by kernel_rfl) (by kernel_rfl) ?_
      simp only [wpPlan, pick, List.filterMap_cons, List.filterMap_nil, List.getElem?_cons_succ, List.getElem?_cons_zero]
      repeat (quiet_step ((go_at_call 80; exact Calls.quiet_of_same (HIX.out _))))
      refine wpQuiet_nil ?_
      rintro _ ⟨n1, rfl⟩
      go_wp2_with fail
      refine (HMN.out _ (HR1.out.kept ((Kept.refl _ _).drewN _))).mono ?_
      rintro e w3 ⟨rfl, rfl⟩
      go_wp2_with fail
      exact ⟨rfl, HK1.out.anyS.drewN _, rfl⟩
  · have hci : l[i]? = none := List.getElem?_eq_none (by omega)
    rw [hci] at hnx
    obtain rfl : .error 0 = M := by rw [← hM, List.drop_of_length_le (by omega)]; rfl
    have HNX := Lib.hid hnx
    clear hnx hix hci hl hi hlt hM hal
    go_enter Tryz.func91, Tryz.ntmps91
    go_wp2_with (go_at_call 57; refine HNX.out.mono ?_; rintro e w1 ⟨rfl, hk1⟩)
    exact ⟨rfl, hk1.anyS, rfl⟩
end Go.Proofs.YtdinkdmkbfbjbaaGreatDoor
namespace Go.Proofs.YtdinkdmkbfbjbaaGreatDoor
open Go.RowKit
attribute [local go_sem] fold_part fold_some fold_some' partAt_zero

theorem or_all : ((List.range 16).all fun a => (List.range 16).all fun b => bits .or .u8 ((a : Int) * 16) (b : Int) == ((a * 16 + b : Nat) : Int)) = true := by decide +kernel
theorem or_hex (a b : Nat) (ha : a < 16) (hb : b < 16) : bits .or .u8 ((a : Int) * 16) (b : Int) = ((a * 16 + b : Nat) : Int) := by
  have := List.all_eq_true.1 (List.all_eq_true.1 or_all a (List.mem_range.2 ha)) b (List.mem_range.2 hb)
  simpa using this

/-- What stands behind \x, from the byte behind it on. -/
def hexR (r : Bs) : Except Nat (UInt8 × Nat) := match hexS r with | .error n => .error (n - 1) | .ok (x, n) => .ok (x, n - 1)

theorem al1_hex' : ∀ c ∈ al1, c ∈ hexd := fun _ h => al1_in h
theorem hexR_bad {r : Bs} {n : Nat} (h : digS al1 r = .error n) : n = 0 ∧ hexR r = .error 0 := by
  unfold hexR hexS
  cases r with
  | nil => cases h; exact ⟨rfl, rfl⟩
  | cons a r =>
    simp only [digS] at h
    by_cases ha : a ∈ al1
    · rw [if_pos ha] at h; cases h
    · rw [if_neg ha] at h; cases h; simp [ha]
theorem hexR_ok {r : Bs} {x : UInt8} {n : Nat} (h : digS al1 r = .ok (x, n)) : n = 1 ∧ ∃ a t, r = a :: t ∧ a ∈ al1 ∧ x = UInt8.ofNat (dval a) ∧
    hexR r = match digS (al2 (dval a)) t with | .error m => .error (1 + m) | .ok (y, m) => .ok (UInt8.ofNat (dval a * 16 + y.toNat), 1 + m) := by
  cases r with
  | nil => cases h
  | cons a r =>
    simp only [digS] at h
    by_cases ha : a ∈ al1
    · rw [if_pos ha] at h
      cases h
      refine ⟨rfl, a, r, rfl, ha, rfl, ?_⟩
      unfold hexR hexS
      simp only [if_pos ha]
      cases r with
      | nil => rfl
      | cons b r =>
        simp only [digS]
        by_cases hb : b ∈ al2 (dval a)
        · have := dval_lt (al2_hex _ _ hb)
          have e : (UInt8.ofNat (dval b)).toNat = dval b := by simp; omega
          rw [if_pos hb, if_pos hb]
          simp only [e]
        · rw [if_neg hb, if_neg hb]
    · rw [if_neg ha] at h; cases h

set_option maxRecDepth 100000 in
set_option maxHeartbeats 1600000 in
theorem phex (g : Nat) (l : Bs) (i : Nat) (hl : l.length ≤ 20000) (hi : i ≤ l.length) (w : World) (h : Rdr w g ⟨l.toArray⟩ i) :
    Calls Tryz.prog 81 #[.pointer (some ⟨g, 0, none⟩)] w (REnd g ⟨l.toArray⟩ i (hexR (l.drop i)) w) := by
  have hd1 := pdigit g al1 al1_hex' l i hl hi w h
  cases hD : digS al1 (l.drop i) with
  | error n =>
    obtain ⟨rfl, e⟩ := hexR_bad hD
    rw [e]
    rw [hD] at hd1
    have HD := Lib.hid hd1
    clear hd1 hD e h hl hi
    go_enter Tryz.func81, Tryz.ntmps81
    go_wp2_with (go_at_call 91; refine HD.out.mono ?_; rintro e w1 ⟨hk1, rfl⟩)
    exact ⟨rfl, hk1, rfl⟩
  | ok xn =>
    obtain ⟨x, n⟩ := xn
    obtain ⟨rfl, a, t, hr, ha, rfl, e⟩ := hexR_ok hD
    rw [e]
    rw [hD] at hd1
    have hdl := dval_lt (al1_in ha)
    have hto : (UInt8.ofNat (dval a)).toNat = dval a := by simp; omega
    have hil : i + 1 ≤ l.length := by
      have := congrArg List.length hr
      rw [List.length_drop, List.length_cons] at this
      omega
    have ht : t = l.drop (i + 1) := by
      have := congrArg List.tail hr
      rw [List.tail_drop] at this
      exact this.symm
    have hd2 := fun W h => pdigit g (al2 (dval a)) (al2_hex _) l (i + 1) hl hil W h
    rw [← ht] at hd2
    generalize hM2 : digS (al2 (dval a)) t = M2 at *
    generalize hxa : dval a = x at *
    obtain ⟨A2, hA2⟩ : ∃ A2 : ByteArray, A2 = ⟨(al2 x).toArray⟩ := ⟨_, rfl⟩
    rw [← hA2] at hd2
    have HTO := Lib.hid hto
    have HD := Lib.hid hd1
    have HD2 := Lib.hid hd2
    have hy : ∀ y m, M2 = .ok (y, m) → y.toNat < 16 := fun y m hy => by
      rw [← hM2] at hy
      cases t with
      | nil => cases hy
      | cons b t =>
        simp only [digS] at hy
        by_cases hb : b ∈ al2 x
        · rw [if_pos hb] at hy
          cases hy
          have := dval_lt (al2_hex _ _ hb)
          simp; omega
        · rw [if_neg hb] at hy; cases hy
    have hsh : IntKind.u8.wrap ((x : Int) * 16) = (x : Int) * 16 := by unfold IntKind.wrap; simp [IntKind.signed, IntKind.bits]; omega
    have HY := Lib.hid hy
    have HA2 := Lib.hid hA2
    clear hd1 hd2 hD e h hl hi hr ht hto hM2 ha hxa hil hy hA2
    have hways : (x = 0 ∧ A2 = ⟨#[48, 49, 50, 51, 52, 53, 54, 55, 56, 98, 99, 101, 102]⟩) ∨ (x = 7 ∧ A2 = ⟨#[102]⟩) ∨ (¬ ((x : Int) = 0) ∧ ¬ ((x : Int) = 7) ∧ A2 = ⟨#[48, 49, 50, 51, 52, 53, 54, 55, 56, 57, 97, 98, 99, 100, 101, 102]⟩) := by
      rw [HA2.out]
      unfold al2
      by_cases h0 : x = 0
      · left; exact ⟨h0, by rw [if_pos h0]⟩
      · by_cases h7 : x = 7
        · right; left; exact ⟨h7, by rw [if_neg h0, if_pos h7]⟩
        · right; right; exact ⟨by omega, by omega, by rw [if_neg h0, if_neg h7]; rfl⟩
    clear HA2
    have hfin : ∀ w1, Kept (fun k => k = g) w w1 → Rdr w1 g ⟨l.toArray⟩ (i + 1) → ∀ w2 e, REnd g ⟨l.toArray⟩ (i + 1) M2 w1 e w2 →
        (∃ n, M2 = .error n ∧ e = .panicked (faultE (i + 1 + n)) ∧ Kept (fun k => k = g) w w2) ∨
        (∃ y n, M2 = .ok (y, n) ∧ e = .returned (.int .u8 y.toNat) ∧ y.toNat < 16 ∧ Rdr w2 g ⟨l.toArray⟩ (i + 1 + n) ∧ Kept (fun k => k = g) w w2) := fun w1 hk1 hr1 w2 e he => by
      obtain ⟨hk2, he⟩ := he
      cases hM2 : M2 with
      | error n => rw [hM2] at he; exact .inl ⟨n, rfl, he, Kept.trans hk1 hk2⟩
      | ok xn =>
        obtain ⟨y, n⟩ := xn
        rw [hM2] at he
        exact .inr ⟨y, n, rfl, he.1, HY.out y n hM2, he.2, Kept.trans hk1 hk2⟩
    have HFIN := Lib.hid hfin
    clear hfin
    generalize hMM : (match M2 with | .error m => (.error (1 + m) : Except Nat (UInt8 × Nat)) | .ok (y, m) => .ok (UInt8.ofNat (x * 16 + y.toNat), 1 + m)) = MM
    have HMM := Lib.hid hMM
    clear hMM
    rcases hways with ⟨rfl, rfl⟩ | ⟨rfl, rfl⟩ | ⟨h0, h7, rfl⟩
    all_goals
      go_enter Tryz.func81, Tryz.ntmps81
      go_wp2_with (go_at_call 91; refine HD.out.mono ?_; rintro e w1 ⟨hk1, rfl, hr1⟩; rw [HTO.out]; refine Hid.out ?_)
      have HK1 := Lib.hid hk1
      have HR1 := Lib.hid hr1
      have hfe := fun w2 e => HFIN.out w1 hk1 hr1 w2 e
      have HFE := Lib.hid hfe
      clear hk1 hr1 hfe
      refine Lib.hid ?_
      go_wp2_with fail
      refine (HD2.out _ HR1.out).mono ?_
      rintro e w2 he
      rcases HFE.out _ _ he with ⟨m, rfl, rfl, hk2⟩ | ⟨y, m, rfl, rfl, hy, hr2, hk2⟩
      · have HK2 := Lib.hid hk2
        clear he hk2
        go_wp2_with fail
        refine ⟨rfl, HK2.out, ?_⟩
        rw [← HMM.out]
        show _ = Ending.panicked (faultE (i + (1 + m)))
        rw [← Nat.add_assoc]
      · have HK2 := Lib.hid hk2
        have HR2 := Lib.hid hr2
        have hor := or_hex _ y.toNat hdl hy
        have HOR := Lib.hid hor
        clear he hk2 hr2 hor HFIN HFE HD2 HY HK1 HR1 HD
        go_wp2_with fail
        go_ret
        refine ⟨HK2.out, ?_⟩
        rw [← HMM.out]
        refine ⟨?_, by rw [← Nat.add_assoc]; exact HR2.out⟩
        rw [UInt8.toNat_ofNat_of_lt' (by show _ < 256; omega), ← HOR.out]
        rfl
end Go.Proofs.YtdinkdmkbfbjbaaGreatDoor
namespace Go.Proofs.YtdinkdmkbfbjbaaGreatDoor
open Go.RowKit
attribute [local go_sem] fold_part fold_some fold_some' partAt_zero

def escL : Bs := [114, 110, 116, 34, 92, 120]
theorem escS_not {c : UInt8} (r : Bs) (h : c ∉ escL) : escS (c :: r) = .error 0 := by
  unfold escL at h
  simp only [List.mem_cons, List.not_mem_nil, or_false, not_or] at h
  obtain ⟨h1, h2, h3, h4, h5, h6⟩ := h
  rw [escS_at h1 h2 h3 h4 h5, if_neg h6]

set_option maxRecDepth 100000 in
set_option maxHeartbeats 1600000 in
theorem pescaped (g : Nat) (l : Bs) (i : Nat) (hl : l.length ≤ 20000) (hi : i ≤ l.length) (w : World) (h : Rdr w g ⟨l.toArray⟩ i) :
    Calls Tryz.prog 58 #[.pointer (some ⟨g, 0, none⟩)] w (REnd g ⟨l.toArray⟩ i (escS (l.drop i)) w) := by
  have hnx := pnext g l i hl hi w h
  have hmy := fun W h => pmust_yes g ⟨l.toArray⟩ i (by omega) W h
  have hmn := fun W h => pmust_no g ⟨l.toArray⟩ i W h
  have hph := fun (hlt : i < l.length) W h => phex g l (i + 1) hl hlt W h
  obtain ⟨S, hS⟩ : ∃ S : ByteArray, S = ⟨l.toArray⟩ := ⟨_, rfl⟩
  rw [← hS] at h hmy hmn hph ⊢
  have HR := Lib.hid h
  have HMY := Lib.hid hmy
  have HMN := Lib.hid hmn
  have HPH := Lib.hid hph
  generalize hM : escS (l.drop i) = M
  have hi6 : i ≤ 20000 := by omega
  clear hS h hmy hmn hph
  by_cases hlt : i < l.length
  · obtain ⟨c, hc⟩ : ∃ c, c = l[i] := ⟨_, rfl⟩
    have hci : l[i]? = some c := by rw [List.getElem?_eq_getElem hlt, hc]
    rw [drop_cons hlt, ← hc] at hM
    rw [hci] at hnx
    simp only at hnx
    have hixc := pindex escL c
    rw [indexByte_eq] at hixc
    have HNX := Lib.hid hnx
    have HIX := Lib.hid hixc
    have HPX := Lib.hid (HPH.out hlt)
    have hr : ∃ r, r = l.drop (i + 1) := ⟨_, rfl⟩
    obtain ⟨r, hr⟩ := hr
    rw [← hr] at hM HPX
    clear hnx hixc hc hci hl hi hlt hr HPH
    by_cases hin : c ∈ escL
    · rw [if_pos hin] at HIX
      have hx0 : (0 : Int) ≤ (escL.idxOf c : Int) := by omega
      generalize escL.idxOf c = ix at *
      unfold escL at hin
      simp only [List.mem_cons, List.not_mem_nil, or_false] at hin
      rcases hin with rfl | rfl | rfl | rfl | rfl | rfl
      · obtain rfl : .ok (13, 1) = M := by rw [← hM]; unfold escS; simp
        clear hM HMN HPX
        go_enter Tryz.func58, Tryz.ntmps58
        go_wp2_with (go_at_call 57; refine HNX.out.mono ?_; rintro e w1 ⟨rfl, hk1⟩; refine Hid.out ?_)
        have hr1 := HR.out.kept hk1
        have HR1 := Lib.hid hr1
        have HK1 := Lib.hid hk1
        clear hr1 hk1
        refine Lib.hid ?_
        go_wp2
        refine wp_plan 0 [1, 2, 3, 4, 5] 6 [] [] (by kernel_rfl) (by kernel_rfl) ?_
        simp only [wpPlan, pick, List.filterMap_cons, List.filterMap_nil, List.getElem?_cons_succ, List.getElem?_cons_zero]
        repeat (quiet_step ((go_at_call 80; exact Calls.quiet_of_same (HIX.out _))))
        refine wpQuiet_nil ?_
        rintro _ ⟨n1, rfl⟩
        go_wp2_with fail
        refine (HMY.out _ (HR1.out.kept ((Kept.refl _ _).drewN _))).mono ?_
        rintro e w3 ⟨rfl, hr3, hk3⟩
        have HR3 := Lib.hid hr3
        have HK3 := Lib.hid (Kept.trans (S := fun k => k = g) (HK1.out.anyS.drewN _) hk3)
        clear hr3 hk3
        go_wp2_with fail
        refine Halt.mk ?_
        go_wp2_with fail
        go_ret
        exact ⟨HK3.out, rfl, HR3.out⟩
      · obtain rfl : .ok (10, 1) = M := by rw [← hM]; unfold escS; simp
        clear hM HMN HPX
        go_enter Tryz.func58, Tryz.ntmps58
        go_wp2_with (go_at_call 57; refine HNX.out.mono ?_; rintro e w1 ⟨rfl, hk1⟩; refine Hid.out ?_)
        have hr1 := HR.out.kept hk1
        have HR1 := Lib.hid hr1
        have HK1 := Lib.hid hk1
        clear hr1 hk1
        refine Lib.hid ?_
        go_wp2
        refine wp_plan 0 [1, 2, 3, 4, 5] 6 [] [] (by kernel_rfl) (by kernel_rfl) ?_
        simp only [wpPlan, pick, List.filterMap_cons, List.filterMap_nil, List.getElem?_cons_succ, List.getElem?_cons_zero]
        repeat (quiet_step ((go_at_call 80; exact Calls.quiet_of_same (HIX.out _))))
        refine wpQuiet_nil ?_
        rintro _ ⟨n1, rfl⟩
        go_wp2_with fail
        refine (HMY.out _ (HR1.out.kept ((Kept.refl _ _).drewN _))).mono ?_
        rintro e w3 ⟨rfl, hr3, hk3⟩
        have HR3 := Lib.hid hr3
        have HK3 := Lib.hid (Kept.trans (S := fun k => k = g) (HK1.out.anyS.drewN _) hk3)
        clear hr3 hk3
        go_wp2_with fail
        refine Halt.mk ?_
        go_wp2_with fail
        go_ret
        exact ⟨HK3.out, rfl, HR3.out⟩
      · obtain rfl : .ok (9, 1) = M := by rw [← hM]; unfold escS; simp
        clear hM HMN HPX
        go_enter Tryz.func58, Tryz.ntmps58
        go_wp2_with (go_at_call 57; refine HNX.out.mono ?_; rintro e w1 ⟨rfl, hk1⟩; refine Hid.out ?_)
        have hr1 := HR.out.kept hk1
        have HR1 := Lib.hid hr1
        have HK1 := Lib.hid hk1
        clear hr1 hk1
        refine Lib.hid ?_
        go_wp2
        refine wp_plan 0 [1, 2, 3, 4, 5] 6 [] [] (by kernel_rfl) (by kernel_rfl) ?_
        simp only [wpPlan, pick, List.filterMap_cons, List.filterMap_nil, List.getElem?_cons_succ, List.getElem?_cons_zero]
        repeat (quiet_step ((go_at_call 80; exact Calls.quiet_of_same (HIX.out _))))
        refine wpQuiet_nil ?_
        rintro _ ⟨n1, rfl⟩
        go_wp2_with fail
        refine (HMY.out _ (HR1.out.kept ((Kept.refl _ _).drewN _))).mono ?_
        rintro e w3 ⟨rfl, hr3, hk3⟩
        have HR3 := Lib.hid hr3
        have HK3 := Lib.hid (Kept.trans (S := fun k => k = g) (HK1.out.anyS.drewN _) hk3)
        clear hr3 hk3
        go_wp2_with fail
        refine Halt.mk ?_
        go_wp2_with fail
        go_ret
        exact ⟨HK3.out, rfl, HR3.out⟩
      · obtain rfl : .ok (34, 1) = M := by rw [← hM]; unfold escS; simp
        clear hM HMN HPX
        go_enter Tryz.func58, Tryz.ntmps58
        go_wp2_with (go_at_call 57; refine HNX.out.mono ?_; rintro e w1 ⟨rfl, hk1⟩; refine Hid.out ?_)
        have hr1 := HR.out.kept hk1
        have HR1 := Lib.hid hr1
        have HK1 := Lib.hid hk1
        clear hr1 hk1
        refine Lib.hid ?_
        go_wp2
        refine wp_plan 0 [1, 2, 3, 4, 5] 6 [] [] (by kernel_rfl) (by kernel_rfl) ?_
        simp only [wpPlan, pick, List.filterMap_cons, List.filterMap_nil, List.getElem?_cons_succ, List.getElem?_cons_zero]
        repeat (quiet_step ((go_at_call 80; exact Calls.quiet_of_same (HIX.out _))))
        refine wpQuiet_nil ?_
        rintro _ ⟨n1, rfl⟩
        go_wp2_with fail
        refine (HMY.out _ (HR1.out.kept ((Kept.refl _ _).drewN _))).mono ?_
        rintro e w3 ⟨rfl, hr3, hk3⟩
        have HR3 := Lib.hid hr3
        have HK3 := Lib.hid (Kept.trans (S := fun k => k = g) (HK1.out.anyS.drewN _) hk3)
        clear hr3 hk3
        go_wp2_with fail
        refine Halt.mk ?_
        go_wp2_with fail
        go_ret
        exact ⟨HK3.out, rfl, HR3.out⟩
      · obtain rfl : .ok (92, 1) = M := by rw [← hM]; unfold escS; simp
        clear hM HMN HPX
        go_enter Tryz.func58, Tryz.ntmps58
        go_wp2_with (go_at_call 57; refine HNX.out.mono ?_; rintro e w1 ⟨rfl, hk1⟩; refine Hid.out ?_)
        have hr1 := HR.out.kept hk1
        have HR1 := Lib.hid hr1
        have HK1 := Lib.hid hk1
        clear hr1 hk1
        refine Lib.hid ?_
        go_wp2
        refine wp_plan 0 [1, 2, 3, 4, 5] 6 [] [] (by kernel_rfl) (by kernel_rfl) ?_
        simp only [wpPlan, pick, List.filterMap_cons, List.filterMap_nil, List.getElem?_cons_succ, List.getElem?_cons_zero]
        repeat (quiet_step ((go_at_call 80; exact Calls.quiet_of_same (HIX.out _))))
        refine wpQuiet_nil ?_
        rintro _ ⟨n1, rfl⟩
        go_wp2_with fail
        refine (HMY.out _ (HR1.out.kept ((Kept.refl _ _).drewN _))).mono ?_
        rintro e w3 ⟨rfl, hr3, hk3⟩
        have HR3 := Lib.hid hr3
        have HK3 := Lib.hid (Kept.trans (S := fun k => k = g) (HK1.out.anyS.drewN _) hk3)
        clear hr3 hk3
        go_wp2_with fail
        refine Halt.mk ?_
        go_wp2_with fail
        go_ret
        exact ⟨HK3.out, rfl, HR3.out⟩
      · obtain rfl : hexS r = M := by rw [← hM, escS_hex]
        have hle := hexS_le (r := r) rfl
        have hfin : ∀ w3, Kept (fun k => k = g) w w3 → ∀ w4 e, REnd g S (i + 1) (hexR r) w3 e w4 →
            (∃ n, hexS r = .error n ∧ e = .panicked (faultE (i + n)) ∧ Kept (fun k => k = g) w w4) ∨
            (∃ y n, hexS r = .ok (y, n) ∧ e = .returned (.int .u8 y.toNat) ∧ Rdr w4 g S (i + n) ∧ Kept (fun k => k = g) w w4) := fun w3 hk3 w4 e he => by
          obtain ⟨hk4, he⟩ := he
          unfold hexR at he
          cases hH : hexS r with
          | error n =>
            have h1 := hle.1 n hH
            rw [hH] at he
            refine .inl ⟨n, rfl, ?_, Kept.trans hk3 hk4⟩
            have he' : e = .panicked (faultE (i + 1 + (n - 1))) := he
            rw [he', show i + 1 + (n - 1) = i + n from by omega]
          | ok xn =>
            obtain ⟨y, n⟩ := xn
            have h1 := hle.2 y n hH
            rw [hH] at he
            have he' : e = .returned (.int .u8 y.toNat) ∧ Rdr w4 g S (i + 1 + (n - 1)) := he
            refine .inr ⟨y, n, rfl, he'.1, ?_, Kept.trans hk3 hk4⟩
            have := he'.2
            rwa [show i + 1 + (n - 1) = i + n from by omega] at this
        have HFIN := Lib.hid hfin
        generalize hexS r = M at *
        clear hM HMN hle hfin
        go_enter Tryz.func58, Tryz.ntmps58
        go_wp2_with (go_at_call 57; refine HNX.out.mono ?_; rintro e w1 ⟨rfl, hk1⟩; refine Hid.out ?_)
        have hr1 := HR.out.kept hk1
        have HR1 := Lib.hid hr1
        have HK1 := Lib.hid hk1
        clear hr1 hk1
        refine Lib.hid ?_
        go_wp2
        refine wp_plan 0 [1, 2, 3, 4, 5] 6 [] [] (by kernel_rfl) (by kernel_rfl) ?_
        simp only [wpPlan, pick, List.filterMap_cons, List.filterMap_nil, List.getElem?_cons_succ, List.getElem?_cons_zero]
        repeat (quiet_step ((go_at_call 80; exact Calls.quiet_of_same (HIX.out _))))
        refine wpQuiet_nil ?_
        rintro _ ⟨n1, rfl⟩
        go_wp2_with fail
        refine (HMY.out _ (HR1.out.kept ((Kept.refl _ _).drewN _))).mono ?_
        rintro e w3 ⟨rfl, hr3, hk3⟩
        have HR3 := Lib.hid hr3
        have HK3 := Lib.hid (Kept.trans (S := fun k => k = g) (HK1.out.anyS.drewN _) hk3)
        clear hr3 hk3
        go_wp2_with fail
        refine Halt.mk ?_
        go_wp2_with fail
        refine (HPX.out _ HR3.out).mono ?_
        rintro e w4 he
        rcases HFIN.out _ HK3.out _ _ he with ⟨m, rfl, rfl, hk4⟩ | ⟨y, m, rfl, rfl, hr4, hk4⟩
        · have HK4 := Lib.hid hk4
          clear he hk4
          go_wp2_with fail
          exact ⟨rfl, HK4.out, rfl⟩
        · have HK4 := Lib.hid hk4
          have HR4 := Lib.hid hr4
          clear he hk4 hr4
          go_wp2_with fail
          go_ret
          exact ⟨HK4.out, rfl, HR4.out⟩
    · rw [if_neg hin] at HIX
      obtain rfl : .error 0 = M := by rw [← hM, escS_not r hin]
      have hx0 : ¬ ((0 : Int) ≤ -1) := by decide
      clear hM hin HPX
      go_enter Tryz.func58, Tryz.ntmps58
      go_wp2_with (go_at_call 57; refine HNX.out.mono ?_; rintro e w1 ⟨rfl, hk1⟩; refine Hid.out ?_)
      have hr1 := HR.out.kept hk1
      have HR1 := Lib.hid hr1
      have HK1 := Lib.hid hk1
      clear hr1 hk1
      refine Lib.hid ?_
      go_wp2
      refine wp_plan 0 [1, 2, 3, 4, 5] 6 [] [] (by kernel_rfl) (by kernel_rfl) ?_
      simp only [wpPlan, pick, List.filterMap_cons, List.filterMap_nil, List.getElem?_cons_succ, List.getElem?_cons_zero]
      repeat (quiet_step ((go_at_call 80; exact Calls.quiet_of_same (HIX.out _))))
      refine wpQuiet_nil ?_
      rintro _ ⟨n1, rfl⟩
      go_wp2_with fail
      refine (HMN.out _ (HR1.out.kept ((Kept.refl _ _).drewN _))).mono ?_
      rintro e w3 ⟨rfl, rfl⟩
      go_wp2_with fail
      exact ⟨rfl, HK1.out.anyS.drewN _, rfl⟩
  · have hci : l[i]? = none := List.getElem?_eq_none (by omega)
    rw [hci] at hnx
    obtain rfl : .error 0 = M := by rw [← hM, List.drop_of_length_le (by omega)]; rfl
    have HNX := Lib.hid hnx
    clear hnx hci hl hi hlt hM HPH
    go_enter Tryz.func58, Tryz.ntmps58
    go_wp2_with (go_at_call 57; refine HNX.out.mono ?_; rintro e w1 ⟨rfl, hk1⟩)
    exact ⟨rfl, hk1.anyS, rfl⟩
end Go.Proofs.YtdinkdmkbfbjbaaGreatDoor
namespace Go.Proofs.YtdinkdmkbfbjbaaGreatDoor
open Go.RowKit
attribute [local go_sem] fold_part fold_some fold_some' partAt_zero

def lenOf : Value → Nat
  | .slice _ n _ => n
  | _ => 0

def BEnd (g : Nat) (M : Except Nat Bs) (w : World) (e : Ending) (w' : World) : Prop :=
  Kept (fun k => k = g) w w' ∧ match M with
  | .error n => e = .panicked (faultE n)
  | .ok b => ∃ v, e = .returned v ∧ OwnT w' w.heap.size v b

theorem Rdr.lt {w : World} {g : Nat} {S : ByteArray} {i : Nat} (h : Rdr w g S i) : g < w.heap.size := lt_of_heap h
theorem Rdr.grown {w w' : World} {g base : Nat} {S : ByteArray} {i : Nat} {v : Value} {xs : Bs} (h : Rdr w g S i) (ho : OwnT w base v xs) (hb : g < base) (hg : w.grownBy w' v.ownBlock) : Rdr w' g S i :=
  (Kept.grown (S := fun k => base ≤ k) (Kept.refl _ w) hg (fun k hk _ => (OwnM.lt ho k hk).1)).heap h (by omega)
theorem OwnT.keptG {w w' : World} {base g : Nat} {v : Value} {xs : Bs} (h : OwnT w base v xs) (hk : Kept (fun k => k = g) w w') (hb : g < base) : OwnT w' base v xs := OwnM.keptS h hk (fun k hk e => by omega)

set_option maxRecDepth 100000 in
set_option maxHeartbeats 3200000 in
theorem pbytes (g : Nat) (l : Bs) (hl : l.length ≤ 20000) (w : World) (h : Rdr w g ⟨l.toArray⟩ 0) :
    Calls Tryz.prog 37 #[.pointer (some ⟨g, 0, none⟩)] w (BEnd g (unq l) w) := by
  have hnx := fun i hi W h => pnext g l i hl hi W h
  have hmy := fun i hi W h => pmust_yes g ⟨l.toArray⟩ i hi W h
  have hmn := fun i W h => pmust_no g ⟨l.toArray⟩ i W h
  have hpe := fun i hi W h => pescaped g l i hl hi W h
  obtain ⟨S, hS⟩ : ∃ S : ByteArray, S = ⟨l.toArray⟩ := ⟨_, rfl⟩
  rw [← hS] at h hnx hmy hmn hpe
  have hSz := str_size hS
  have hS6 : S.size ≤ 20000 := by omega
  have hlt := h.lt
  generalize hM : unq l = M
  have HR := Lib.hid h
  have HNX := Lib.hid hnx
  have HMY := Lib.hid hmy
  have HMN := Lib.hid hmn
  have HPE := Lib.hid hpe
  have HS := Lib.hid hS
  have HSZ := Lib.hid hSz
  have HM := Lib.hid hM
  clear h hnx hmy hmn hpe hS hSz hM
  go_enter Tryz.func37, Tryz.ntmps37
  go_wp2
  refine wp_planC (fun _ => True) 9 [.flt 0, .flt 1, .flt 2, .seg [3, 4, 5] 6, .seg [7] 8] [] (by kernel_rfl) (by kernel_rfl) (fun _ _ _ dst _ h => by cases dst <;> exact h) (fun _ _ h => h) trivial (fun n0 => ?_)
  repeat (refine planC_flt rfl rfl ?_; apply Exists.intro; refine ⟨fun w' hw' => ?_, ?_⟩; (go_simp; first | rfl | exact ⟨rfl, rfl⟩); simp only [Act.put, List.setIfInBounds_toArray, List.set_cons_succ, List.set_cons_zero])
  simp only [wpPlanC, pick, List.filterMap_cons, List.filterMap_nil, List.getElem?_cons_succ, List.getElem?_cons_zero]
  repeat (quiet_step (fail))
  refine wpQuiet_nil ?_
  rintro _ ⟨n1, rfl⟩
  go_wp2_with fail
  refine (HNX.out 0 (Nat.zero_le _) _ (HR.out.kept (((Kept.refl _ _).drewN _)))).mono ?_
  rintro e w1 ⟨he, hk1⟩
  have hr1 := HR.out.kept (((Kept.refl NoBlock w).drewN _).trans hk1)
  have hk1' := ((Kept.refl NoBlock w).drewN _).trans hk1
  have HR1 := Lib.hid hr1
  have HK1 := Lib.hid hk1'
  clear hr1 hk1 hk1'
  cases hl0 : l with
  | nil =>
    rw [hl0] at he
    obtain rfl : .error 0 = M := by rw [← HM.out, hl0]; rfl
    obtain rfl : e = .panicked (faultE 0) := he
    go_wp2_with fail
    exact ⟨rfl, HK1.out.anyS, rfl⟩
  | cons c0 r0 =>
    rw [hl0] at he
    obtain rfl : e = .returned (.int .u8 c0.toNat) := he
    by_cases hc0 : c0 = 34
    · subst hc0
      have hM1 : unqA 1 [] (l.drop 1) = M := by rw [← HM.out, hl0]; unfold unq; simp
      have HM1 := Lib.hid hM1
      have h1S : 1 ≤ S.size := by rw [HSZ.out, hl0, List.length_cons]; omega
      have hgw := hlt
      clear hl0 hM1 HM
      go_wp2_with fail
      refine Halt.mk ⟨.inr trivial, ?_⟩
      repeat (quiet_step (fail))
      refine wpQuiet_nil ?_
      rintro _ ⟨n2, rfl⟩
      go_wp2_with fail
      refine (HMY.out 0 (Nat.zero_le _) _ (HR1.out.kept ((Kept.refl _ _).drewN _))).mono ?_
      rintro e w3 ⟨rfl, hr3, hk3⟩
      have HR3 := Lib.hid hr3
      have HK3 := Lib.hid (Kept.trans (S := fun k => k = g) (HK1.out.anyS.drewN _) hk3)
      clear hr3 hk3
      go_wp2_with fail
      refine Halt.mk ⟨.inr trivial, ?_⟩
      go_wp2_with fail
      go_loopw [3, 4] (fun vb _ wr => ∃ (i : Nat) (xs : Bs), 1 ≤ i ∧ i ≤ S.size ∧ OwnT wr w.heap.size vb xs ∧ Rdr wr g S i ∧ unqA i xs (l.drop i) = M ∧ xs.length ≤ i ∧ Kept (fun k => k = g) w wr) (fun vb _ _ => 20001 - lenOf vb)
      case atStart => exact ⟨1, [], Nat.le_refl _, h1S, OwnT.nil _ _, HR3.out, HM1.out, Nat.zero_le _, HK3.out⟩
      case round =>
        obtain ⟨i, xs, hi1, hi, hown, hrd, hM, hx, hK⟩ := hrel
        obtain ⟨ap, cap, rfl, _⟩ := hown.bytes.parts
        have HO := Lib.hid hown
        have HRD := Lib.hid hrd
        have HMM := Lib.hid hM
        have HK := Lib.hid hK
        have hsz := hK.size
        have hil : i ≤ l.length := by rw [← HSZ.out]; exact hi
        have hnx := HNX.out i hil wr hrd
        have HN := Lib.hid hnx
        clear hown hrd hM hK hnx HM1 HR3 HK3 HK1 HR1
        by_cases hlt : i < S.size
        · have hil2 : i < l.length := by rw [← HSZ.out]; exact hlt
          obtain ⟨c, hc⟩ : ∃ c, c = l[i] := ⟨_, rfl⟩
          obtain ⟨r, hr⟩ : ∃ r, r = l.drop (i + 1) := ⟨_, rfl⟩
          have hci : l[i]? = some c := by rw [List.getElem?_eq_getElem hil2, hc]
          have hdc := drop_cons hil2
          rw [← hc, ← hr] at hdc
          rw [hci] at HN
          have hM := HMM.out
          rw [hdc] at hM
          have HM2 := Lib.hid hM
          have hrl : r.length = S.size - (i + 1) := by rw [hr, List.length_drop, HSZ.out]
          have HRL := Lib.hid hrl
          have HRr := Lib.hid hr
          clear hM hrl hr hdc hci hc HMM hil hil2
          by_cases hbad : c.toNat < 32 ∨ 126 < c.toNat
          · have h34 : c ≠ 34 := fun e => by subst e; revert hbad; decide
            obtain rfl : .error i = M := by rw [← HM2.out, unqA_bad _ _ _ hbad h34]
            have hb' : ¬ ((32 : Int) ≤ (c.toNat : Int)) ∨ ((32 : Int) ≤ (c.toNat : Int) ∧ ¬ ((c.toNat : Int) ≤ 126)) := by omega
            clear hbad h34
            rcases hb' with hb' | ⟨hb', hb''⟩
            all_goals
              go_wp2_with (go_at_call 57; refine HN.out.mono ?_; rintro e w4 ⟨rfl, hk4⟩; refine Hid.out ?_)
              have HK4 := Lib.hid hk4
              clear hk4
              refine Lib.hid ?_
              go_wp2_with fail
              first | (with_reducible refine (HMN.out i _ (HRD.out.kept HK4.out)).mono ?_) | (rw [decide_eq_false (show ¬ ((c.toNat : Int) ≤ 126) by omega)]; (with_reducible refine (HMN.out i _ (HRD.out.kept HK4.out)).mono ?_))
              rintro e w5 ⟨rfl, rfl⟩
              go_wp2_with fail
              exact ⟨rfl, HK.out.trans HK4.out.anyS, rfl⟩
          · have hb1 : (32 : Int) ≤ (c.toNat : Int) := by omega
            have hb2 : (c.toNat : Int) ≤ 126 := by omega
            have hi6 : i ≤ 20000 := by omega
            go_wp2_with (go_at_call 57; refine HN.out.mono ?_; rintro e w4 ⟨rfl, hk4⟩; refine Hid.out ?_)
            have HK4 := Lib.hid hk4
            clear hk4
            refine Lib.hid ?_
            go_wp2_with fail
            (with_reducible refine (HMY.out i hi6 _ (HRD.out.kept HK4.out)).mono ?_)
            rintro e w5 ⟨rfl, hr5, hk5⟩
            have hk5' := Kept.trans (S := fun k => k = g) HK4.out.anyS hk5
            have ho5 := HO.out.keptG hk5' hgw
            have HK5 := Lib.hid (Kept.trans (S := fun k => k = g) HK.out hk5')
            have HR5 := Lib.hid hr5
            have HO5 := Lib.hid ho5
            obtain ⟨c0', c1', f0', f1'⟩ := blk2 hr5
            clear hr5 hk5 hk5' ho5 HO HRD HK4 HN HK
            have hw5 : w.heap.size ≤ w5.heap.size := HK5.out.size
            by_cases h34 : c = 34
            · subst h34
              by_cases hlast : i + 1 < S.size
              · obtain rfl : .error (i + 1) = M := by rw [← HM2.out, unqA_more _ _ _ (fun e => by have := HRL.out; rw [e] at this; simp only [List.length_nil] at this; omega)]
                have hlI : (i : Int) + 1 < (S.size : Int) := by omega
                clear hbad
                go_wp2_with fail
                go_quiet (fail)
                go_wp2_with fail
                exact ⟨rfl, HK5.out.drewN _, rfl⟩
              · have hr0 : r = [] := List.eq_nil_of_length_eq_zero (by have := HRL.out; omega)
                obtain rfl : .ok xs = M := by rw [← HM2.out, hr0, unqA_end]
                have hlI : ¬ (i : Int) + 1 < (S.size : Int) := by omega
                clear hr0 hbad
                go_wp2_with fail
                go_quiet (fail)
                go_wp2_with fail
                go_ret
                exact ⟨HK5.out.drewN _, _, rfl, HO5.out.kept ((Kept.refl _ _).drewN _)⟩
            · have k34 : ¬ ((c.toNat : Int) = 34) := u8_neI h34
              by_cases h92 : c = 92
              · subst h92
                have hpe := HPE.out (i + 1) (by rw [← HSZ.out]; exact hlt) w5 HR5.out
                rw [← HRr.out] at hpe
                have hle := escS_le r
                have hEM := fun x n h => unqA_esc i xs r (x := x) (n := n) h
                have hEE := fun n h => unqA_err i xs r (n := n) h
                generalize escS r = E at *
                have HPE5 := Lib.hid hpe
                clear hbad h34 hpe k34
                rcases E with n | ⟨x, n⟩
                · obtain rfl : .error (i + 1 + n) = M := by rw [← HM2.out, hEE n rfl]
                  clear hEM hEE hle
                  go_wp2_with (go_at_call 58; refine HPE5.out.mono ?_; rintro e w6 ⟨hk6, rfl⟩)
                  exact ⟨rfl, HK5.out.trans hk6, rfl⟩
                · have hM3 : unqA (i + 1 + n) (xs ++ [x]) (l.drop (i + 1 + n)) = M := by rw [← HM2.out, hEM x n rfl, HRr.out, List.drop_drop]
                  obtain ⟨hn1, hn2⟩ := hle.2 x n rfl
                  have hn3 : i + 1 + n ≤ S.size := by have := HRL.out; omega
                  have HM3 := Lib.hid hM3
                  clear hEM hEE hle hM3 HM2
                  go_wp2_with (go_at_call 58; refine HPE5.out.mono ?_; rintro e w6 ⟨hk6, rfl, hr6⟩; refine Hid.out ?_)
                  have HK6 := Lib.hid (HK5.out.trans hk6)
                  have ho6 := HO5.out.keptG hk6 hgw
                  have HO6 := Lib.hid ho6
                  have HR6 := Lib.hid hr6
                  have hw6 : w.heap.size ≤ w6.heap.size := HK6.out.size
                  clear hk6 ho6 hr6 HR5 HO5
                  refine Lib.hid ?_
                  go_wp2_with (at_builtin; refine wpList_appL rfl _ _ (by rfl) w.heap.size _ xs (by rfl) (OwnM.alloc HO6.out _) _ [x] (by rfl) (bytes_fresh w6 [x]) (by simp only [List.length_cons, List.length_nil]; omega) (by simp; omega) ?_; intro v7 w7 hown7 hg7; refine Hid.out ?_)
                  have hr7 := Rdr.grown (HR6.out.kept (Kept.allocd w6 _)) (OwnM.alloc HO6.out _) hgw hg7
                  have HR7 := Lib.hid hr7
                  have HK7 := Lib.hid (Kept.app (HK6.out.trans ((Kept.allocd w6 _).anyS)) (OwnM.alloc HO6.out _) (Nat.le_refl _) hg7)
                  obtain ⟨ap7, cap7, rfl, _⟩ := hown7.bytes.parts
                  have HO7 := Lib.hid hown7
                  clear hown7 hg7 hr7
                  refine Lib.hid ?_
                  go_wp2_with fail
                  go_roundw
                  case rel => exact ⟨i + 1 + n, xs ++ [x], by omega, hn3, HO7.out, HR7.out, HM3.out, by rw [List.length_append, List.length_singleton]; omega, HK7.out⟩
                  case measure => simp [lenOf]; omega
              · have k92 : ¬ ((c.toNat : Int) = 92) := u8_neI h92
                have hM3 : unqA (i + 1) (xs ++ [c]) (l.drop (i + 1)) = M := by rw [← HM2.out, unqA_plain _ _ _ hbad h34 h92, HRr.out]
                have HM3 := Lib.hid hM3
                clear hbad hM3 HM2 h34 h92
                go_wp2_with (at_builtin; refine wpList_appL rfl _ _ (by rfl) w.heap.size _ xs (by rfl) (OwnM.alloc HO5.out _) _ [c] (by rfl) (bytes_fresh w5 [c]) (by simp only [List.length_cons, List.length_nil]; omega) (by simp; omega) ?_; intro v6 w6 hown6 hg6; refine Hid.out ?_)
                have hr6 := Rdr.grown (HR5.out.kept (Kept.allocd w5 _)) (OwnM.alloc HO5.out _) hgw hg6
                have HR6 := Lib.hid hr6
                have HK6 := Lib.hid (Kept.app (HK5.out.trans ((Kept.allocd w5 _).anyS)) (OwnM.alloc HO5.out _) (Nat.le_refl _) hg6)
                obtain ⟨ap6, cap6, rfl, _⟩ := hown6.bytes.parts
                have HO6 := Lib.hid hown6
                clear hown6 hg6 hr6
                refine Lib.hid ?_
                go_wp2_with fail
                go_roundw
                case rel => exact ⟨i + 1, xs ++ [c], by omega, by omega, HO6.out, HR6.out, HM3.out, by rw [List.length_append, List.length_singleton]; omega, HK6.out⟩
                case measure => simp [lenOf]; omega
        · obtain rfl : i = S.size := by omega
          have hM := HMM.out
          rw [List.drop_of_length_le (by rw [← HSZ.out]; exact Nat.le_refl _), unqA_nil] at hM
          obtain rfl := hM
          have hN := HN.out
          rw [List.getElem?_eq_none (by rw [← HSZ.out]; exact Nat.le_refl _)] at hN
          simp only at hN
          have HN := Lib.hid hN
          clear HMM hN
          go_wp2_with (go_at_call 57; refine HN.out.mono ?_; rintro e w4 ⟨rfl, hk4⟩)
          exact ⟨rfl, HK.out.trans hk4.anyS, rfl⟩
    · have k0 : ¬ ((c0.toNat : Int) = 34) := u8_neI hc0
      have k0b : ((c0.toNat : Int) == 34) = false := by simpa using k0
      obtain rfl : .error 0 = M := by rw [← HM.out, hl0]; unfold unq; simp [hc0]
      clear hl0 hc0 HM
      go_wp2_with fail
      refine Halt.mk ⟨.inr trivial, ?_⟩
      repeat (quiet_step (fail))
      refine wpQuiet_nil ?_
      rintro _ ⟨n2, rfl⟩
      go_wp2_with fail
      (with_reducible refine (HMN.out 0 _ (HR1.out.kept ((Kept.refl _ _).drewN _))).mono ?_)
      rintro e w3 ⟨rfl, rfl⟩
      go_wp2_with fail
      exact ⟨rfl, HK1.out.anyS.drewN _, rfl⟩
end Go.Proofs.YtdinkdmkbfbjbaaGreatDoor
namespace Go.Proofs.YtdinkdmkbfbjbaaGreatDoor
open Go.RowKit
attribute [local go_sem] fold_part fold_some fold_some' partAt_zero

/-- The boxes of the three results, from H on. -/
structure Bx3 (w : World) (H : Nat) (vb va vc : Value) : Prop where
  b0 : w.heap[H]? = some (.cells #[vb] 43 (0, 0))
  b1 : w.heap[H + 1]? = some (.cells #[va] 3 (0, 0))
  b2 : w.heap[H + 2]? = some (.cells #[vc] 29 (0, 0))

theorem blk1' {w : World} {g : Nat} {a : Value} {T : TypeId} (h : w.heap[g]? = some (.cells #[a] T (0, 0))) :
    w.cell? ⟨g, 0, none⟩ = some a ∧ w.frozen? ⟨g, 0, none⟩ = false := ⟨cellB h rfl, frozenB h 0⟩
theorem heap_set_ne {w : World} {o : Option Obj} {p : Addr} {v : Value} {k : Nat} (h : w.heap[k]? = o) (hne : k ≠ p.block) : (w.setCell p v).heap[k]? = o := (heap_setCell_ne p v hne).trans h
theorem ta_fault (n : Int) (w : World) : (Instr.typeAssert (.iface 84 (.agg #[.int .i64 n])) 20 84 true).run Tryz.prog w = .ok (.tuple #[.agg #[.int .i64 n], .bool true]) w := by kernel_rfl

theorem Bx3.kept {S : Nat → Prop} {w w' : World} {H : Nat} {vb va vc : Value} (h : Bx3 w H vb va vc) (hk : Kept S w w') (hS : ∀ k, S k → k < H ∨ H + 2 < k) : Bx3 w' H vb va vc :=
  ⟨hk.heap h.b0 (fun e => by have := hS _ e; omega), hk.heap h.b1 (fun e => by have := hS _ e; omega), hk.heap h.b2 (fun e => by have := hS _ e; omega)⟩

/-- The three results, stored. -/
theorem Bx3.told {w : World} {H : Nat} {vb va vc : Value} (h : Bx3 w H vb va vc) (vb' va' vc' : Value) :
    Bx3 (((w.setCell ⟨H, 0, none⟩ vb').setCell ⟨H + 1, 0, none⟩ va').setCell ⟨H + 2, 0, none⟩ vc') H vb' va' vc' ∧
    Kept (fun k => k = H ∨ k = H + 1 ∨ k = H + 2) w (((w.setCell ⟨H, 0, none⟩ vb').setCell ⟨H + 1, 0, none⟩ va').setCell ⟨H + 2, 0, none⟩ vc') := by
  obtain ⟨h0, h1, h2⟩ := h
  refine ⟨⟨?_, ?_, ?_⟩, ?_⟩
  · refine heap_set_ne (heap_set_ne (heap_setCell_same h0 0 vb') ?_) ?_ <;> (simp only; omega)
  · refine heap_set_ne (heap_setCell_same (heap_set_ne h1 ?_) 0 va') ?_ <;> (simp only; omega)
  · refine heap_setCell_same (heap_set_ne (heap_set_ne h2 ?_) ?_) 0 vc' <;> (simp only; omega)
  · exact Kept.setCell (S := fun k => k = H ∨ k = H + 1 ∨ k = H + 2) (Kept.setCell (S := fun k => k = H ∨ k = H + 1 ∨ k = H + 2) (Kept.setCell (S := fun k => k = H ∨ k = H + 1 ∨ k = H + 2) (Kept.refl _ w) (p := ⟨H, 0, none⟩) (fun _ => by simp) _) (p := ⟨H + 1, 0, none⟩) (fun _ => by simp) _) (p := ⟨H + 2, 0, none⟩) (fun _ => by simp) _

set_option maxRecDepth 100000 in
set_option maxHeartbeats 1600000 in
theorem pcatch (H n : Nat) (vb va vc : Value) (w : World) (h : Bx3 w H vb va vc) :
    CallsD Tryz.prog 36 #[.pointer (some ⟨H, 0, none⟩), .pointer (some ⟨H + 1, 0, none⟩), .pointer (some ⟨H + 2, 0, none⟩)] (.panicking (faultE n)) w
      (fun e u' w' => e = .returned (.tuple #[]) ∧ u' = .panicking [{ v := .iface 84 (.agg #[.int .i64 n]), recovered := true }] ∧ Bx3 w' H (.slice none 0 0) (.int .i64 n) (.int .i64 250) ∧ Kept (fun k => k = H ∨ k = H + 1 ∨ k = H + 2) w w') := by
  obtain ⟨c0, f0⟩ := blk1' h.b0
  obtain ⟨c1, f1⟩ := blk1' h.b1
  obtain ⟨c2, f2⟩ := blk1' h.b2
  have hH2 : H + 2 < w.heap.size := lt_of_heap h.b2
  have HH := Lib.hid h
  clear h
  have hta := fun w => ta_fault n w
  refine callsD_of_wpS Tryz.func36 rfl fun c₀ cs hu => ?_
  simp only [Tryz.ntmps36, List.size_toArray, List.length_cons, List.length_nil, Nat.reduceAdd, Nat.reduceSub, Array.replicate_succ, Array.replicate_zero, List.push_toArray, List.append_toArray, List.nil_append, List.cons_append]
  apply wpS_seq
  apply wpS_region
  simp [wpOpsS, go_sem, recoverD, hu, faultE, Exit.thenS]
  refine wpS_of_wp ?_
  clear hu
  go_wp2
  have hb1 := HH.out.kept (Kept.allocd w (.cells #[.int .i64 n] 84)) (fun k h => h.elim)
  have hcell : (w.alloc (.cells #[.int .i64 n] 84)).heap[w.heap.size]? = some (.cells #[.int .i64 n] 84 (0, 0)) := heap_alloc_new w _
  have hkk : Kept NoBlock w (w.alloc (.cells #[.int .i64 n] 84)) := Kept.allocd _ _
  generalize hF : w.heap.size = F at *
  generalize w.alloc (.cells #[.int .i64 n] 84) = W1 at *
  have HK := Lib.hid hkk
  have HB1 := Lib.hid hb1
  have HC := Lib.hid hcell
  clear c0 c1 c2 f0 f1 f2 hkk
  obtain ⟨c0, f0⟩ := blk1' hb1.b0
  obtain ⟨c1, f1⟩ := blk1' hb1.b1
  obtain ⟨c2, f2⟩ := blk1' hb1.b2
  clear hb1 HH
  have hcF := cellB hcell (i := 0) rfl
  clear hcell
  have k0 : H ≠ F := by omega
  have k1 : H + 1 ≠ F := by omega
  have k2 : H + 2 ≠ F := by omega
  refine wp_planC (fun W => W.cell? ⟨F, 0, none⟩ = some (.int .i64 n)) 4 [.flt 0, .flt 1, .seg [] 2, .seg [] 3, .seg [] 4] [] (by kernel_rfl) (by kernel_rfl) (fun _ _ _ dst _ h => by cases dst <;> exact h) (fun _ _ h => h) hcF (fun n0 => ?_)
  repeat (refine planC_flt rfl rfl ?_; apply Exists.intro; refine ⟨fun w' hw' => ?_, ?_⟩; (go_simp; first | rfl | exact ⟨rfl, rfl⟩); simp only [Act.put, List.setIfInBounds_toArray, List.set_cons_succ, List.set_cons_zero])
  simp only [wpPlanC, pick, List.filterMap_cons, List.filterMap_nil, List.getElem?_cons_succ, List.getElem?_cons_zero]
  go_wp2
  refine Halt.mk ⟨.inr (cellB (heap_set_ne (w := W1.drewN n0) HC.out (by simp only; omega)) rfl), ?_⟩
  go_wp2
  refine Halt.mk ⟨.inr (cellB (heap_set_ne (heap_set_ne (w := W1.drewN n0) HC.out (by simp only; omega)) (by simp only; omega)) rfl), ?_⟩
  go_wp2
  refine Halt.mk ⟨.inl trivial, ?_⟩
  have ht := Bx3.told (HB1.out.kept ((Kept.refl NoBlock W1).drewN n0) (fun k h => h.elim)) (.slice none 0 0) (.int .i64 n) (.int .i64 250)
  exact ⟨rfl, _, rfl, _, results_none rfl _ _ _, rfl, rfl, ht.1, Kept.trans (HK.out.anyS.drewN n0) ht.2⟩

set_option maxRecDepth 100000 in
set_option maxHeartbeats 1600000 in
theorem pcatch_idle (p1 p2 p3 : Value) (w : World) :
    CallsD Tryz.prog 36 #[p1, p2, p3] .returning w fun e u' w' => e = .returned (.tuple #[]) ∧ u' = .returning ∧ w = w' := by
  refine callsD_of_wpS Tryz.func36 rfl fun c₀ cs hu => ?_
  simp only [Tryz.ntmps36, List.size_toArray, List.length_cons, List.length_nil, Nat.reduceAdd, Nat.reduceSub, Array.replicate_succ, Array.replicate_zero, List.push_toArray, List.append_toArray, List.nil_append, List.cons_append]
  apply wpS_seq
  apply wpS_region
  simp [wpOpsS, go_sem, recoverD, hu, Exit.thenS]
  refine wpS_of_wp ?_
  go_wp2
  refine ⟨rfl, .returning, ?_, _, results_none rfl _ _ _, rfl, rfl, rfl⟩
  cases c₀
  simp_all

theorem four (w : World) (o0 o1 o2 o3 : Obj) :
    let W := (((w.alloc o0).alloc o1).alloc o2).alloc o3
    W.heap[w.heap.size]? = some o0 ∧ W.heap[w.heap.size + 1]? = some o1 ∧ W.heap[w.heap.size + 2]? = some o2 ∧ W.heap[w.heap.size + 3]? = some o3 := by
  simp only [World.alloc]
  refine ⟨?_, ?_, ?_, ?_⟩ <;> (simp only [Array.getElem?_push, Array.size_push]; repeat (first | rw [if_neg (by omega)] | rw [if_pos trivial] | rw [if_pos (by omega)]))

/-- The four boxes. -/
def W4 (w : World) (S : ByteArray) : World :=
  (((w.alloc (.cells #[.slice none 0 0] 43)).alloc (.cells #[.int .i64 0] 3)).alloc (.cells #[.int .i64 0] 29)).alloc (.cells #[.string S, .int .i64 0] 90)

set_option maxRecDepth 100000 in
set_option maxHeartbeats 3200000 in
theorem punq (l : Bs) (hl : l.length ≤ 20000) (w : World) :
    Calls Tryz.prog 22 #[.string ⟨l.toArray⟩] w (UnqEnd (unq l) w) := by
  have hpb := fun W h => pbytes (w.heap.size + 3) l hl W h
  obtain ⟨S, hS⟩ : ∃ S : ByteArray, S = ⟨l.toArray⟩ := ⟨_, rfl⟩
  rw [← hS] at hpb ⊢
  generalize unq l = M at *
  clear hS hl
  have hbx : Bx3 (W4 w S) w.heap.size (.slice none 0 0) (.int .i64 0) (.int .i64 0) := by
    obtain ⟨h0, h1, h2, _⟩ := four w (.cells #[.slice none 0 0] 43) (.cells #[.int .i64 0] 3) (.cells #[.int .i64 0] 29) (.cells #[.string S, .int .i64 0] 90)
    exact ⟨h0, h1, h2⟩
  have hrd : Rdr (W4 w S) (w.heap.size + 3) S 0 := (four w (.cells #[.slice none 0 0] 43) (.cells #[.int .i64 0] 3) (.cells #[.int .i64 0] 29) (.cells #[.string S, .int .i64 0] 90)).2.2.2
  have hk4 : Kept NoBlock w (W4 w S) := ((((Kept.refl NoBlock w).alloc _).alloc _).alloc _).alloc _
  have hs4 : (W4 w S).heap.size = w.heap.size + 4 := by simp [W4]
  have hcall := hpb _ hrd
  have hmf : ∀ (fn : Fn) (first cap : Array Value) (w : World), (Instr.makeFunc fn first cap).run Tryz.prog w = .ok (.func fn first cap) w := fun _ _ _ _ => rfl
  have HBX := Lib.hid hbx
  have HK4 := Lib.hid hk4
  have HC := Lib.hid hcall
  have HS4 := Lib.hid hs4
  clear hpb hbx hrd hk4 hs4 hcall
  go_enter_defers Tryz.func22, Tryz.ntmps22
  go_wp2_with fail
  refine HC.out.mono ?_
  rintro e w2 ⟨hk2, hend⟩
  have hbx2 := HBX.out.kept hk2 (fun k h => by omega)
  have hk2' : Kept (fun k => k = w.heap.size + 3) w w2 := HK4.out.anyS.trans hk2
  have hw2 : w.heap.size + 4 ≤ w2.heap.size := by have := hk2.size; have := HS4.out; omega
  cases M with
  | error n =>
    obtain rfl := hend
    refine leaves_cons (f := 36) (args := #[.pointer (some ⟨w.heap.size, 0, none⟩), .pointer (some ⟨w.heap.size + 1, 0, none⟩), .pointer (some ⟨w.heap.size + 1 + 1, 0, none⟩)]) (by simp) (by simp [go_sem]) ?_
    refine (pcatch w.heap.size n _ _ _ w2 hbx2).mono ?_
    rintro e u' w'' ⟨rfl, rfl, hb3, hk3⟩
    obtain ⟨e0, _⟩ := blk1' hb3.b0
    obtain ⟨e1, _⟩ := blk1' hb3.b1
    obtain ⟨e2, _⟩ := blk1' hb3.b2
    simp [Leaves, settle, results, Tryz.results22, go_sem, e0, e1, e2]
    exact ⟨Kept.trans' (S := NoBlock) (Kept.trans' (S := NoBlock) (Kept.refl _ w) hk2' (fun i h e => by omega)) hk3 (fun i h e => by omega), rfl⟩
  | ok b =>
    obtain ⟨v, rfl, ho⟩ := hend
    obtain ⟨ap, cap, rfl, _⟩ := ho.bytes.parts
    have HB2 := Lib.hid hbx2
    have HK2 := Lib.hid hk2'
    have HO := Lib.hid ho
    obtain ⟨c0, f0⟩ := blk1' hbx2.b0
    obtain ⟨c1, f1⟩ := blk1' hbx2.b1
    obtain ⟨c2, f2⟩ := blk1' (g := w.heap.size + 1 + 1) hbx2.b2
    clear hbx2 hk2' ho hk2 HC HBX
    go_wp2_with fail
    refine leaves_cons (f := 36) (args := #[.pointer (some ⟨w.heap.size, 0, none⟩), .pointer (some ⟨w.heap.size + 1, 0, none⟩), .pointer (some ⟨w.heap.size + 1 + 1, 0, none⟩)]) (by simp) (by simp [go_sem]) ?_
    refine (pcatch_idle _ _ _ _).mono ?_
    rintro e u' w'' ⟨rfl, rfl, rfl⟩
    have ht := Bx3.told HB2.out (.slice ap b.length cap) (.int .i64 0) (.int .i64 0)
    obtain ⟨e0, _⟩ := blk1' ht.1.b0
    obtain ⟨e1, _⟩ := blk1' ht.1.b1
    obtain ⟨e2, _⟩ := blk1' ht.1.b2
    simp [Leaves, settle, results, Tryz.results22, go_sem, e0, e1, e2]
    have h4 := HS4.out
    refine ⟨Kept.trans' (S := NoBlock) (Kept.trans' (S := NoBlock) (Kept.refl _ w) HK2.out (fun i h e => by omega)) ht.2 (fun i h e => by omega), _, rfl, ?_⟩
    exact OwnM.lower (OwnM.keptS HO.out ht.2 (fun k hk e => by omega)) (by omega)
end Go.Proofs.YtdinkdmkbfbjbaaGreatDoor
namespace Go.Proofs.YtdinkdmkbfbjbaaGreatDoor
open Go.RowKit Go.Sort Go.Lib Go.Shelf

theorem arr24 : Tryz.prog.arrayLen 131 = 24 := by kernel_rfl
theorem und24 : Tryz.prog.underlying 131 = some (.array 24 5) := by kernel_rfl
theorem zero24 : (Tryz.prog.info? 131).bind (·.zero) = some (.agg Lib.zeros24) := by kernel_rfl

set_option maxHeartbeats 3200000 in
set_option maxRecDepth 100000 in
theorem iformatU (u : Nat) (hu64 : u < 18446744073709551616) (w : World) (htab : Lib.TabIs Tryz.prog w "internal/strconv.uint64pow10" .u64 Lib.pow10Tab) :
    Calls Tryz.prog 65 #[.int .u64 u, .int .i64 10] w fun e w' => e = .returned (.string ⟨(decDigits u).toArray⟩) ∧ ∃ k os, w' = grow (w.drewN k) os := by
  by_cases hs : u < 100
  · have hsI : (u : Int) < 100 := by omega
    have hw : IntKind.i64.wrap (u : Int) = u := IntWalk.i64_in _ (by omega)
    go_enter Tryz.func65, Tryz.ntmps65
    go_wp2_with (go_at_call 85; refine (Tryz.internal_strconv_small u hs _).mono ?_; rintro e w' ⟨rfl, rfl⟩)
    go_ret
    exact ⟨rfl, 0, #[], by simp [World.drewN_zero]⟩
  · have hsI : ¬ (u : Int) < 100 := by omega
    have hu1 : 1 ≤ u := by omega
    have hnd20 : Lib.nDigits u ≤ 20 := by have := Lib.numDigits_eq u hu1 hu64; split at this <;> omega
    have hb3 : Lib.nDigits u ≤ 24 := by omega
    have hal := arr24
    have hsl1 : ∀ W, (Instr.sliceAt 131 (.pointer (some ⟨w.heap.size, 0, none⟩)) none (some (.int .i64 (Lib.nDigits u : Int))) none).run Tryz.prog W = .ok (.slice (some ⟨w.heap.size, 0, none⟩) (Lib.nDigits u) 24) W := fun W => by
      rw [run_sliceAt_array_h W 131 ⟨w.heap.size, 0, none⟩ (by simp [Program.arrayLen, Program.elem, und24]) .i64 (Lib.nDigits u : Int) (by omega) (by rw [hal]; omega)]
      go_simp
    have hH0 := Lib.holds_zero0 w 131 (Lib.nDigits u) (by omega)
    have hfmt := Tryz.internal_strconv_formatBase10 w.heap.size 0 24 u (Array.replicate (Lib.nDigits u) 0) (w.alloc (.cells Lib.zeros24 131)) hH0 (by rw [Array.size_replicate]; exact Lib.lt_pow_nDigits u) hu64 (by rw [Array.size_replicate]; omega)
    rw [Array.size_replicate] at hfmt
    have HH0 := Lib.hid hH0
    clear hH0 hal
    go_enter Tryz.func65, Tryz.ntmps65
    go_wp2_with (go_at_call 86; refine (Tryz.internal_strconv_numDigits u hu1 hu64 _ (Lib.tabIs_alloc htab _)).mono ?_; rintro e w' ⟨rfl, rfl⟩)
    go_at_call 87
    refine hfmt.mono ?_
    rintro e w' ⟨rfl, k, v', dk, rfl, hF⟩
    have hcv : (convert 43 9 (.slice (some ⟨w.heap.size, 0, none⟩) (Lib.nDigits u) 24)).run Tryz.prog ((putRow (fun (b : UInt8) => Value.int .u8 (b.toNat : Int)) (w.alloc (.cells Lib.zeros24 131)) w.heap.size 0 dk).drewN k) = .ok (.string ⟨(Lib.decDigits u).toArray⟩) ((putRow (fun (b : UInt8) => Value.int .u8 (b.toNat : Int)) (w.alloc (.cells Lib.zeros24 131)) w.heap.size 0 dk).drewN k) := by
      have h := run_convert_bytes_back (P := Tryz.prog) ((putRow (fun (b : UInt8) => Value.int .u8 (b.toNat : Int)) (w.alloc (.cells Lib.zeros24 131)) w.heap.size 0 dk).drewN k) 43 9 5 ⟨w.heap.size, 0, none⟩ 24 (Lib.decDigits u) Tryz.underlying43 Tryz.underlying5 Tryz.underlying9 (fun j hj => by
        rw [Lib.row_is_numeral hF j hj, Lib.add_plain, World.cell?_drewN]
        exact cell?_putRow (fun (b : UInt8) => Value.int .u8 (b.toNat : Int)) _ w.heap.size 0 _ dk HH0.out (by rw [hF.size, Array.size_replicate]) j (by rw [hF.size]; rw [Lib.decDigits_length] at hj; exact hj))
      rw [Lib.decDigits_length] at h
      exact h
    go_wp2
    go_ret
    obtain ⟨os, eo⟩ := Lib.fin_at w (.cells Lib.zeros24 131) dk k 0
    exact ⟨rfl, k, os, eo⟩

theorem nformatU (u : Nat) (hu64 : u < 18446744073709551616) (w : World) (hV : Vs w) :
    Calls Tryz.prog 40 #[.int .u64 u, .int .i64 10] w fun e w' => e = .returned (.string ⟨(decDigits u).toArray⟩) ∧ Below w.heap.size w w' := by
  go_enter Tryz.func40, Tryz.ntmps40
  go_wp2_with (go_at_call 65; refine (iformatU u hu64 _ hV.tab).mono ?_; rintro e w' ⟨rfl, k, os, rfl⟩)
  go_ret
  exact ⟨rfl, Lib.below_grow _ _ (Nat.le_refl _) _ _⟩
end Go.Proofs.YtdinkdmkbfbjbaaGreatDoor

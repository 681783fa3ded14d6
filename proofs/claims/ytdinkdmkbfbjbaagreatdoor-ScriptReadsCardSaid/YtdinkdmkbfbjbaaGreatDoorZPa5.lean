/- Merged: The program's number of a text is the document's: plain lists; The deed of a line: by definition, and by both texts' ways; The deed of a line: both texts' ways lead to it; strings.Cut at one byte; what the walks of both Parses share; The program's Parse: sent bytes; The program's Parse: sent bytes; The program's Parse: down; The program's Parse: down; The program's Parse: tick; The program's Parse: tick; The program's Parse: restart; The program's Parse: restart; The program's Parse: up; The program's Parse: up; The program's Parse: the others; The program's Parse: the others; The program's Parse, of any line. -/
import Derived.Test.YtdinkdmkbfbjbaaGreatDoorZPs5
set_option linter.all false
namespace Go.Proofs.YtdinkdmkbfbjbaaGreatDoor
open Go.RowKit

theorem try_some (l : List UInt8) : ∀ (v : Nat), (∀ c ∈ l, isDig c) → valOf v l ≤ 9223372036854775808 → tryDigits (-(v : Int)) l = some (-((valOf v l : Nat) : Int)) := by
  induction l with
  | nil => intro v _ _; rfl
  | cons c r ih =>
    intro v hd hv
    have hc : isDig c := hd c (by simp)
    have hv' : valOf (v * 10 + (c.toNat - 48)) r ≤ 9223372036854775808 := hv
    have h2 := le_valOf (v * 10 + (c.toNat - 48)) r
    have e : -(v : Int) * 10 - ((c.toNat - 48 : Nat) : Int) = -((v * 10 + (c.toNat - 48) : Nat) : Int) := by omega
    have hc' := hc
    unfold isDig at hc'
    rw [tryDigits, if_pos hc', e, if_neg (by omega)]
    exact ih _ (fun c hc => hd c (by simp [hc])) hv'

theorem some_try (l : List UInt8) : ∀ (v : Nat) (m : Int), v ≤ 9223372036854775808 → tryDigits (-(v : Int)) l = some m → (∀ c ∈ l, isDig c) ∧ m = -((valOf v l : Nat) : Int) ∧ valOf v l ≤ 9223372036854775808 := by
  induction l with
  | nil =>
    intro v m hv h
    simp only [tryDigits, Option.some.injEq] at h
    exact ⟨(fun c hc => by cases hc), h.symm, hv⟩
  | cons c r ih =>
    intro v m hv h
    rw [tryDigits] at h
    split at h
    · rename_i hc
      have e : -(v : Int) * 10 - ((c.toNat - 48 : Nat) : Int) = -((v * 10 + (c.toNat - 48) : Nat) : Int) := by omega
      rw [e] at h
      split at h
      · cases h
      · rename_i hlow
        obtain ⟨h1, h2, h3⟩ := ih _ m (by omega) h
        refine ⟨fun x hx => ?_, h2, h3⟩
        rcases List.mem_cons.1 hx with rfl | hx
        · exact hc
        · exact h1 x hx
    · cases h

theorem dec_of_snoc (e : List UInt8) (c : UInt8) (hc : isDig c) (_he : e ≠ []) (ih : Lib.decDigits (valOf 0 e) = e) (hp : 1 ≤ valOf 0 e) : Lib.decDigits (valOf 0 (e ++ [c])) = e ++ [c] := by
  unfold isDig at hc
  rw [valOf_append, valOf_one]
  obtain ⟨d, hd⟩ : ∃ d, d = c.toNat - 48 := ⟨_, rfl⟩
  rw [← hd]
  have hbig : ¬ (valOf 0 e * 10 + d < 10) := by omega
  rw [dec_big hbig, show (valOf 0 e * 10 + d) / 10 = valOf 0 e by omega, show (valOf 0 e * 10 + d) % 10 = d by omega, ih]
  have : UInt8.ofNat (48 + d) = c := by
    apply UInt8.toNat_inj.1
    rw [toNat_digit (by omega)]; omega
  rw [this]

theorem dec_of (l : List UInt8) : (∀ c ∈ l, isDig c) → l ≠ [] → (l.head?.map (·.toNat) ≠ some 48 ∨ l.length = 1) → Lib.decDigits (valOf 0 l) = l ∧ (l.head?.map (·.toNat) ≠ some 48 → 1 ≤ valOf 0 l) := by
  induction hn : l.length using Nat.strongRecOn generalizing l with
  | _ n ih =>
    intro hd hne hh
    obtain ⟨e, c, rfl⟩ : ∃ e c, l = e ++ [c] := ⟨l.dropLast, l.getLast hne, (List.dropLast_concat_getLast hne).symm⟩
    have hc : isDig c := hd c (by simp)
    have hc' := hc
    unfold isDig at hc'
    cases e with
    | nil =>
      refine ⟨?_, fun h => ?_⟩
      · rw [List.nil_append, valOf_one]
        have hs : 0 * 10 + (c.toNat - 48) < 10 := by omega
        rw [dec_small hs]
        congr 1
        apply UInt8.toNat_inj.1
        rw [toNat_digit hs]; omega
      · rw [List.nil_append, valOf_one]
        simp at h
        omega
    | cons x e =>
      have hlen : ((x :: e) ++ [c]).length = (x :: e).length + 1 := by simp
      have hx : (x :: e).head?.map (·.toNat) ≠ some 48 := by
        rcases hh with h | h
        · simpa using h
        · rw [hlen] at hn; simp only [List.length_cons] at hn; omega
      rw [hlen] at hn
      obtain ⟨i1, i2⟩ := ih (x :: e).length (by omega) (x :: e) rfl (fun y hy => hd y (List.mem_append_left _ hy)) (by simp) (.inl hx)
      have hp := i2 hx
      refine ⟨dec_of_snoc (x :: e) c hc (by simp) i1 hp, fun _ => ?_⟩
      rw [valOf_append, valOf_one]
      omega

theorem dec_head (u : Nat) : ∀ c r, Lib.decDigits u = c :: r → c.toNat = 48 → u = 0 ∧ r = [] := by
  induction u using Nat.strongRecOn with
  | _ u ih =>
    intro c r h hc
    by_cases hs : u < 10
    · rw [dec_small hs] at h
      simp only [List.cons.injEq] at h
      obtain ⟨h1, h2⟩ := h
      rw [← h1, toNat_digit hs] at hc
      exact ⟨by omega, h2.symm⟩
    · rw [dec_big hs] at h
      obtain ⟨x, y, hxy⟩ : ∃ x y, Lib.decDigits (u / 10) = x :: y := by
        cases e : Lib.decDigits (u / 10) with
        | nil => exact absurd e (dec_ne _)
        | cons x y => exact ⟨x, y, rfl⟩
      rw [hxy, List.cons_append, List.cons.injEq] at h
      obtain ⟨h1, _⟩ := h
      have := (ih (u / 10) (by omega) x y hxy (by rw [h1]; exact hc)).1
      omega

/-- What the document says of a number's own text. -/
theorem refV_itoa (v : Int) (h0 : -9223372036854775808 ≤ v) (h1 : v ≤ 9223372036854775807) : badHead (signed (Lib.itoa v)) (behind (Lib.itoa v)) = false ∧ ∃ m, tryDigits 0 (behind (Lib.itoa v)) = some m := by
  have key : ∀ M : Nat, M ≤ 9223372036854775808 → ∃ m, tryDigits 0 (Lib.decDigits M) = some m := fun M hM => by
    have := try_some (Lib.decDigits M) 0 (dec_dig M) (by rw [dec_val]; exact hM)
    exact ⟨_, by simpa using this⟩
  by_cases hv : v < 0
  · obtain ⟨M, rfl⟩ : ∃ M : Nat, v = -(M : Int) := ⟨v.natAbs, by omega⟩
    rw [Lib.itoa_neg M (by omega)]
    have hs : signed (45 :: Lib.decDigits M) = true := rfl
    have hb : behind (45 :: Lib.decDigits M) = Lib.decDigits M := rfl
    rw [hs, hb]
    refine ⟨?_, key M (by omega)⟩
    cases e : Lib.decDigits M with
    | nil => exact absurd e (dec_ne _)
    | cons c r =>
      have : ¬ (c.toNat = 48) := fun h => by have := (dec_head M c r e h).1; omega
      simp [badHead, this]
  · obtain ⟨M, rfl⟩ : ∃ M : Nat, v = (M : Int) := ⟨v.toNat, by omega⟩
    rw [Lib.itoa_nonneg]
    obtain ⟨c, r, e⟩ : ∃ c r, Lib.decDigits M = c :: r := by
      cases e : Lib.decDigits M with
      | nil => exact absurd e (dec_ne _)
      | cons c r => exact ⟨c, r, rfl⟩
    have hc : isDig c := dec_dig M c (by rw [e]; simp)
    unfold isDig at hc
    have hs : signed (Lib.decDigits M) = false := by rw [e]; simp [signed]; omega
    have hb : behind (Lib.decDigits M) = Lib.decDigits M := by unfold behind; rw [hs]; rfl
    rw [hb, hs]
    refine ⟨?_, key M (by omega)⟩
    rw [e]
    by_cases h : c.toNat = 48
    · have := (dec_head M c r e h).2
      subst this
      simp [badHead]
    · simp [badHead, h]

theorem parseV_none {l : List UInt8} (h : ∀ v, -9223372036854775808 ≤ v → v ≤ 9223372036854775807 → Lib.itoa v ≠ l) : parseV l = (0, 10) := by
  rcases parseV_cases l with h1 | ⟨v, _, h2, h3, h4⟩
  · exact h1
  · exact absurd h2 (h v h3 h4)

theorem ref_is_parse (l : List UInt8) : refV l = parseV l := by
  cases hb : badHead (signed l) (behind l) with
  | true =>
    rw [refV_bad hb, parseV_none]
    rintro v h0 h1 rfl
    rw [(refV_itoa v h0 h1).1] at hb
    cases hb
  | false =>
    cases ht : tryDigits 0 (behind l) with
    | none =>
      rw [refV_none hb ht, parseV_none]
      rintro v h0 h1 rfl
      obtain ⟨m, hm⟩ := (refV_itoa v h0 h1).2
      rw [hm] at ht
      cases ht
    | some m =>
      obtain ⟨hd, hm, hV⟩ := some_try (behind l) 0 m (by omega) (by simpa using ht)
      obtain ⟨V, hVe⟩ : ∃ V, V = valOf 0 (behind l) := ⟨_, rfl⟩
      rw [← hVe] at hm hV
      have hne : behind l ≠ [] := fun h => by rw [h] at hb; cases hb
      cases hs : signed l with
      | true =>
        rw [refV_neg hb ht hs]
        obtain ⟨r, hl⟩ : ∃ r, l = 45 :: r := by
          cases l with
          | nil => cases hs
          | cons c r =>
            have : c.toNat = 45 := by simpa [signed] using hs
            exact ⟨r, by rw [show c = 45 from UInt8.toNat_inj.1 this]⟩
        have hbr : behind l = r := by unfold behind; rw [hs, hl]; rfl
        rw [hs] at hb
        have hh : (behind l).head?.map (·.toNat) ≠ some 48 := by
          cases h : behind l with
          | nil => exact absurd h hne
          | cons c q =>
            rw [h] at hb
            simpa [badHead] using hb
        obtain ⟨g1, g2⟩ := dec_of (behind l) hd hne (.inl hh)
        rw [← hVe] at g1 g2
        have hi : Lib.itoa m = l := by
          rw [hm, Lib.itoa_neg V (g2 hh), g1, hbr, hl]
        have hmb : -9223372036854775808 ≤ m ∧ m ≤ 9223372036854775807 := by rw [hm]; omega
        have := parseV_itoa m hmb.1 hmb.2
        rw [hi] at this
        exact this.symm
      | false =>
        have hbl : behind l = l := by unfold behind; rw [hs]; rfl
        have hb0 := hb
        rw [hs] at hb
        have hh : (behind l).head?.map (·.toNat) ≠ some 48 ∨ (behind l).length = 1 := by
          cases h : behind l with
          | nil => exact absurd h hne
          | cons c q =>
            rw [h] at hb
            simp only [badHead, Bool.false_or, Bool.and_eq_false_iff, beq_eq_false_iff_ne, decide_eq_false_iff_not] at hb
            rcases hb with hb | hb
            · exact .inl (by simpa using hb)
            · exact .inr (by rw [List.length_cons]; omega)
        obtain ⟨g1, _⟩ := dec_of (behind l) hd hne hh
        rw [← hVe, hbl] at g1
        by_cases hmin : m = -9223372036854775808
        · rw [refV_min hb0 ht hs hmin, parseV_none]
          intro v h0 h1 hv
          by_cases hneg : v < 0
          · unfold Lib.itoa at hv
            rw [if_pos hneg] at hv
            rw [← hv] at hs
            cases hs
          · obtain ⟨M, rfl⟩ : ∃ M : Nat, v = (M : Int) := ⟨v.toNat, by omega⟩
            rw [Lib.itoa_nonneg] at hv
            have e1 := dec_val M
            rw [hv] at e1
            rw [hbl] at hVe
            omega
        · rw [refV_pos hb0 ht hs hmin]
          have hi : Lib.itoa (V : Int) = l := by rw [Lib.itoa_nonneg, g1]
          have hVb : V ≠ 9223372036854775808 := fun h => hmin (by rw [hm, h]; rfl)
          have hVb2 : (V : Int) ≤ 9223372036854775807 := by omega
          have := parseV_itoa (V : Int) (by omega) hVb2
          rw [hi] at this
          rw [this, hm]
          simp
end Go.Proofs.YtdinkdmkbfbjbaaGreatDoor
namespace Go.Proofs.YtdinkdmkbfbjbaaGreatDoor
open Go.RowKit
open Go.Lib (decDigits)

/-- Before and behind the first c, and is there one? -/
def cutB (c : UInt8) : Bs → Bs × Bs × Bool
  | [] => ([], [], false)
  | x :: r => if x = c then ([], r, true) else (x :: (cutB c r).1, (cutB c r).2)

theorem index_one_cons (c x : UInt8) (r : Bs) : Lib.index (x :: r) [c] = if x = c then 0 else if Lib.index r [c] = -1 then -1 else Lib.index r [c] + 1 := by
  rw [Lib.index]
  by_cases h : x = c
  · subst h; simp
  · simp [h, List.isPrefixOf, Ne.symm h]

theorem cut_eq (c : UInt8) (l : Bs) : Lib.cut l [c] = cutB c l := by
  induction l with
  | nil => rfl
  | cons x r ih =>
    unfold Lib.cut at ih ⊢
    rw [index_one_cons, cutB]
    by_cases h : x = c
    · simp [h]
    · rw [if_neg h, if_neg h, ← ih]
      have hge := Lib.index_ge r [c]
      by_cases h1 : Lib.index r [c] = -1
      · simp [h1]
      · have h0 : 0 ≤ Lib.index r [c] := by omega
        obtain ⟨k, hk⟩ : ∃ k : Nat, Lib.index r [c] = k := ⟨(Lib.index r [c]).toNat, by omega⟩
        rw [if_neg h1, hk]
        have e : ((k : Int) + 1).toNat = k + 1 := by omega
        simp [e, Nat.add_right_comm]
        omega

theorem cutB_hit {c : UInt8} {x : Bs} (h : ∀ b ∈ x, b ≠ c) (y : Bs) : cutB c (x ++ c :: y) = (x, y, true) := by
  induction x with
  | nil => simp [cutB]
  | cons b x ih =>
    have hb := h b (by simp)
    simp only [List.cons_append, cutB, if_neg hb, ih (fun d hd => h d (by simp [hd]))]
theorem cutB_miss {c : UInt8} {x : Bs} (h : ∀ b ∈ x, b ≠ c) : cutB c x = (x, [], false) := by
  induction x with
  | nil => rfl
  | cons b x ih =>
    have hb := h b (by simp)
    simp only [cutB, if_neg hb, ih (fun d hd => h d (by simp [hd]))]
theorem cutB_len (c : UInt8) (l : Bs) : (cutB c l).1.length ≤ l.length ∧ (cutB c l).2.1.length ≤ l.length := by
  induction l with
  | nil => exact ⟨Nat.le_refl _, Nat.le_refl _⟩
  | cons x r ih =>
    rw [cutB]
    split
    · exact ⟨Nat.zero_le _, Nat.le_succ _⟩
    · exact ⟨Nat.succ_le_succ ih.1, Nat.le_succ_of_le ih.2⟩

theorem dec_no (u : Nat) {c : UInt8} (hc : ¬ isDig c) : ∀ b ∈ decDigits u, b ≠ c := fun b hb e => hc (e ▸ dec_dig u b hb)
theorem itoa_no (n : Int) {c : UInt8} (hc : ¬ isDig c) (h45 : c ≠ 45) : ∀ b ∈ Lib.itoa n, b ≠ c := by
  rcases Int.lt_or_le n 0 with h0 | h0
  · obtain ⟨u, rfl⟩ : ∃ u : Nat, n = -(u : Int) := ⟨n.natAbs, by omega⟩
    rw [Lib.itoa_neg u (by omega)]
    intro b hb
    rcases List.mem_cons.1 hb with rfl | hb
    · exact fun e => h45 e.symm
    · exact dec_no u hc b hb
  · obtain ⟨u, rfl⟩ : ∃ u : Nat, n = u := ⟨n.toNat, by omega⟩
    rw [Lib.itoa_nonneg]
    exact dec_no u hc

theorem not_dig_32 : ¬ isDig 32 := by unfold isDig; decide
theorem itoa_32 (n : Int) : ∀ b ∈ Lib.itoa n, b ≠ 32 := itoa_no n not_dig_32 (by decide)
theorem dec_32 (u : Nat) : ∀ b ∈ decDigits u, b ≠ 32 := dec_no u not_dig_32

/-- strconv.ParseUint, base 10, 64 bits. -/
def drawV (l : Bs) : Option Nat := match Lib.parseUintB 64 l with | .ok u => some u | _ => none

/-- What the program looks at. -/
noncomputable def candP (s : Bs) : Option Deed :=
  if (parseV (cutB 32 (cutB 32 s).2.1).1).2 ≠ 0 then none
  else if kindV (cutB 32 s).1 = 2 then
    match unq (cutB 32 (cutB 32 s).2.1).2.1 with
    | .ok b => some ⟨2, (parseV (cutB 32 (cutB 32 s).2.1).1).1, 0, 0, b⟩
    | .error _ => none
  else if kindV (cutB 32 s).1 = 3 then
    if (parseV (cutB 32 (cutB 32 (cutB 32 s).2.1).2.1).1).2 ≠ 0 then none else
    match drawV (cutB 32 (cutB 32 (cutB 32 s).2.1).2.1).2.1 with
    | some u => some ⟨3, (parseV (cutB 32 (cutB 32 s).2.1).1).1, (parseV (cutB 32 (cutB 32 (cutB 32 s).2.1).2.1).1).1, u, []⟩
    | none => none
  else if kindV (cutB 32 s).1 = 4 ∨ kindV (cutB 32 s).1 = 6 then
    if (parseV (cutB 32 (cutB 32 (cutB 32 s).2.1).2.1).1).2 ≠ 0 then none
    else some ⟨kindV (cutB 32 s).1, (parseV (cutB 32 (cutB 32 s).2.1).1).1, (parseV (cutB 32 (cutB 32 (cutB 32 s).2.1).2.1).1).1, 0, []⟩
  else if kindV (cutB 32 s).1 = 7 then
    match drawV (cutB 32 (cutB 32 s).2.1).2.1 with
    | some u => some ⟨7, (parseV (cutB 32 (cutB 32 s).2.1).1).1, 0, u, []⟩
    | none => none
  else some ⟨kindV (cutB 32 s).1, (parseV (cutB 32 (cutB 32 s).2.1).1).1, 0, 0, []⟩

noncomputable def parseP (s : Bs) : Option Deed := match candP s with | some d => if 1 ≤ d.kind ∧ lineD d = s then some d else none | none => none

/-- What the document looks at. -/
def candR (s : Bs) : Option Deed :=
  if (wordsF 4 [] s).getD 0 [] = [111, 112, 101, 110] then some ⟨1, (refV ((wordsF 4 [] s).getD 1 [])).1, 0, 0, []⟩
  else if (wordsF 4 [] s).getD 0 [] = [115, 101, 110, 100] then
    (match (wordsF 2 [] s)[2]? with
    | some x => match unq x with | .ok b => some ⟨2, (refV ((wordsF 4 [] s).getD 1 [])).1, 0, 0, b⟩ | .error _ => none
    | none => some ⟨2, (refV ((wordsF 4 [] s).getD 1 [])).1, 0, 0, []⟩)
  else if (wordsF 4 [] s).getD 0 [] = [117, 112] then some ⟨3, (refV ((wordsF 4 [] s).getD 1 [])).1, (refV ((wordsF 4 [] s).getD 2 [])).1, bigV ((wordsF 4 [] s).getD 3 []), []⟩
  else if (wordsF 4 [] s).getD 0 [] = [100, 111, 119, 110] then some ⟨4, (refV ((wordsF 4 [] s).getD 1 [])).1, (refV ((wordsF 4 [] s).getD 2 [])).1, 0, []⟩
  else if (wordsF 4 [] s).getD 0 [] = [99, 117, 116] then some ⟨5, (refV ((wordsF 4 [] s).getD 1 [])).1, 0, 0, []⟩
  else if (wordsF 4 [] s).getD 0 [] = [116, 105, 99, 107] then some ⟨6, (refV ((wordsF 4 [] s).getD 1 [])).1, (refV ((wordsF 4 [] s).getD 2 [])).1, 0, []⟩
  else if (wordsF 4 [] s).getD 0 [] = [114, 101, 115, 116, 97, 114, 116] then some ⟨7, (refV ((wordsF 4 [] s).getD 1 [])).1, 0, bigV ((wordsF 4 [] s).getD 2 []), []⟩
  else none

def parseR (s : Bs) : Option Deed := match candR s with | some d => if lineD d = s then some d else none | none => none

/-- The deed of a line. -/
def Is (s : Bs) (d : Deed) : Prop := bareD d = true ∧ d.Fits ∧ 1 ≤ d.kind ∧ d.kind ≤ 7 ∧ lineD d = s

theorem parseV_in (l : Bs) : -9223372036854775808 ≤ (parseV l).1 ∧ (parseV l).1 ≤ 9223372036854775807 := by
  rcases parseV_cases l with h | ⟨v, h, _, h1, h2⟩
  · rw [h]; decide
  · rw [h]; exact ⟨h1, h2⟩
theorem refV_in (l : Bs) : -9223372036854775808 ≤ (refV l).1 ∧ (refV l).1 ≤ 9223372036854775807 := by rw [ref_is_parse]; exact parseV_in l

theorem drawV_lt {l : Bs} {u : Nat} (h : drawV l = some u) : u < 18446744073709551616 := by
  unfold drawV at h
  split at h
  · rename_i v hv
    cases h
    unfold Lib.parseUintB at hv
    split at hv
    · cases hv
    · have := Lib.parseUintM_le _ _ _ _ (Nat.zero_le _) hv
      omega
  · cases h

theorem idxFromS_in (x : ByteArray) : ∀ (zs : List ByteArray) (i : Nat), Lib.idxFromS zs x i = -1 ∨ (∃ k : Nat, k < zs.length ∧ Lib.idxFromS zs x i = ((i + k : Nat) : Int))
  | [], i => .inl rfl
  | z :: zs, i => by
    by_cases h : z = x
    · exact .inr ⟨0, by simp, by simp [Lib.idxFromS, h]⟩
    · rcases idxFromS_in x zs (i + 1) with h1 | ⟨k, hk, h1⟩
      · exact .inl (by simp [Lib.idxFromS, h, h1])
      · exact .inr ⟨k + 1, by simpa using hk, by simp [Lib.idxFromS, h, h1]; omega⟩
theorem kindV_in (l : Bs) : -1 ≤ kindV l ∧ kindV l ≤ 7 := by
  unfold kindV Lib.idxOfS
  rcases idxFromS_in ⟨l.toArray⟩ kwords 0 with h | ⟨k, hk, h⟩
  · rw [h]; decide
  · rw [h]
    have : k < 8 := hk
    omega

theorem hexS_len {r : Bs} {x : UInt8} {n : Nat} (h : escS r = .ok (x, n)) : 1 ≤ n ∧ n ≤ r.length := (escS_le r).2 x n h
theorem unqA_blen : ∀ (N : Nat) (i : Nat) (b s : Bs) (x : Bs), s.length ≤ N → unqA i b s = .ok x → x.length ≤ b.length + s.length := by
  intro N
  induction N with
  | zero =>
    intro i b s x hs h
    obtain rfl : s = [] := List.length_eq_zero_iff.1 (by omega)
    rw [unqA_nil] at h; cases h
  | succ N ih =>
    intro i b s x hs h
    cases s with
    | nil => rw [unqA_nil] at h; cases h
    | cons c r =>
      simp only [List.length_cons] at hs ⊢
      by_cases h34 : c = 34
      · subst h34
        by_cases hr : r = []
        · subst hr; rw [unqA_end] at h; cases h; omega
        · rw [unqA_more i b r hr] at h; cases h
      by_cases hb : c.toNat < 32 ∨ 126 < c.toNat
      · rw [unqA_bad i b r hb h34] at h; cases h
      by_cases h92 : c = 92
      · subst h92
        cases he : escS r with
        | error n => rw [unqA_err i b r he] at h; cases h
        | ok xn =>
          obtain ⟨y, n⟩ := xn
          rw [unqA_esc i b r he] at h
          have := hexS_len he
          have := ih _ _ _ _ (by rw [List.length_drop]; omega) h
          simp only [List.length_append, List.length_drop, List.length_singleton] at this
          omega
      · rw [unqA_plain i b r hb h34 h92] at h
        have := ih _ _ _ _ (by omega) h
        simp only [List.length_append, List.length_singleton] at this
        omega
theorem unq_blen {s x : Bs} (h : unq s = .ok x) : x.length ≤ s.length := by
  cases s with
  | nil => cases h
  | cons c r =>
    unfold unq at h
    by_cases hc : c = 34
    · simp only [hc, if_true] at h
      have := unqA_blen r.length 1 [] r x (Nat.le_refl _) h
      simp only [List.length_nil, List.length_cons] at this ⊢
      omega
    · simp only [hc, if_false] at h; cases h
end Go.Proofs.YtdinkdmkbfbjbaaGreatDoor
namespace Go.Proofs.YtdinkdmkbfbjbaaGreatDoor
open Go.RowKit
open Go.Lib (decDigits)

theorem wordsF_hit {m : Nat} {x : Bs} (h : ∀ b ∈ x, b ≠ 32) (y : Bs) : ∀ cur, wordsF (m + 1) cur (x ++ 32 :: y) = (cur ++ x) :: wordsF m [] y := by
  induction x with
  | nil => intro cur; simp [wordsF]
  | cons b x ih =>
    intro cur
    have hb := h b (by simp)
    rw [List.cons_append, wordsF, if_neg (fun e => hb e.1), ih (fun d hd => h d (by simp [hd]))]
    simp
theorem wordsF_miss {m : Nat} {x : Bs} (h : ∀ b ∈ x, b ≠ 32) : ∀ cur, wordsF m cur x = [cur ++ x] := by
  induction x with
  | nil => intro cur; cases m <;> simp [wordsF]
  | cons b x ih =>
    intro cur
    have hb := h b (by simp)
    rw [wordsF, if_neg (fun e => hb e.1), ih (fun d hd => h d (by simp [hd]))]
    simp
theorem wordsF_zero (x : Bs) : ∀ cur, wordsF 0 cur x = [cur ++ x] := by
  induction x with
  | nil => intro cur; simp [wordsF]
  | cons b x ih => intro cur; rw [wordsF, if_neg (fun e => absurd e.2 (by decide)), ih]; simp

theorem kind1 : kindV [111, 112, 101, 110] = 1 := by kernel_rfl
theorem kind2 : kindV [115, 101, 110, 100] = 2 := by kernel_rfl
theorem kind3 : kindV [117, 112] = 3 := by kernel_rfl
theorem kind4 : kindV [100, 111, 119, 110] = 4 := by kernel_rfl
theorem kind5 : kindV [99, 117, 116] = 5 := by kernel_rfl
theorem kind6 : kindV [116, 105, 99, 107] = 6 := by kernel_rfl
theorem kind7 : kindV [114, 101, 115, 116, 97, 114, 116] = 7 := by kernel_rfl

theorem foldl_big (l : Bs) : ∀ acc : Nat, (∀ c ∈ l, isDig c) → l.foldl bigStep (acc % 18446744073709551616) = valOf acc l % 18446744073709551616 := by
  induction l with
  | nil =>
    intro acc _
    have e : valOf acc [] = acc := rfl
    rw [e, List.foldl_nil]
  | cons c r ih =>
    intro acc h
    have hc : isDig c := h c (by simp)
    have e : valOf acc (c :: r) = valOf (acc * 10 + (c.toNat - 48)) r := rfl
    rw [List.foldl_cons, e, ← ih _ (fun d hd => h d (by simp [hd]))]
    congr 1
    unfold isDig at hc
    unfold bigStep
    omega
theorem big_dec (u : Nat) (h : u < 18446744073709551616) : bigV (decDigits u) = u := by
  have := foldl_big (decDigits u) 0 (dec_dig u)
  rw [dec_val, Nat.zero_mod, Nat.mod_eq_of_lt h] at this
  exact this
theorem draw_dec (u : Nat) (h : u < 18446744073709551616) : drawV (decDigits u) = some u := by
  unfold drawV; rw [parseB_dec u (by omega)]
theorem ref_itoa (n : Int) (h0 : -9223372036854775808 ≤ n) (h1 : n ≤ 9223372036854775807) : refV (Lib.itoa n) = (n, 0) := by rw [ref_is_parse, parseV_itoa n h0 h1]

theorem candP_fits {s : Bs} {d : Deed} (hs : s.length ≤ 9000) (h : candP s = some d) : bareD d = true ∧ d.Fits ∧ d.kind ≤ 7 := by
  have hc1 := (cutB_len 32 s).2
  have hc2 := (cutB_len 32 (cutB 32 s).2.1).2
  have hk := kindV_in (cutB 32 s).1
  have ha := parseV_in (cutB 32 (cutB 32 s).2.1).1
  have hn := parseV_in (cutB 32 (cutB 32 (cutB 32 s).2.1).2.1).1
  unfold candP at h
  generalize kindV (cutB 32 s).1 = k at *
  generalize parseV (cutB 32 (cutB 32 s).2.1).1 = A at *
  generalize parseV (cutB 32 (cutB 32 (cutB 32 s).2.1).2.1).1 = N at *
  split at h
  · cases h
  split at h
  · split at h
    · rename_i b hb
      cases h
      have := unq_blen hb
      exact ⟨by simp [bareD], ⟨by simp, ha, by simp, by simp, by simp only; omega⟩, by simp⟩
    · cases h
  split at h
  · split at h
    · cases h
    split at h
    · rename_i u hu
      cases h
      exact ⟨by simp [bareD], ⟨by simp, ha, hn, drawV_lt hu, by simp⟩, by simp⟩
    · cases h
  split at h
  · rename_i h46
    split at h
    · cases h
    cases h
    refine ⟨?_, ⟨by simp only; omega, ha, hn, by simp, by simp⟩, hk.2⟩
    rcases h46 with rfl | rfl <;> simp [bareD]
  split at h
  · split at h
    · rename_i u hu
      cases h
      exact ⟨by simp [bareD], ⟨by simp, ha, by simp, drawV_lt hu, by simp⟩, by simp⟩
    · cases h
  · rename_i h2 h3 h46 h7
    cases h
    refine ⟨?_, ⟨by simp only; omega, ha, by simp, by simp, by simp⟩, hk.2⟩
    unfold bareD
    simp only [h2, h3, h46, h7, if_false]
    rfl

theorem candR_fits {s : Bs} {d : Deed} (hs : s.length ≤ 9000) (hw : ∀ x, (wordsF 2 [] s)[2]? = some x → x.length ≤ 9000) (h : candR s = some d) : bareD d = true ∧ d.Fits ∧ 1 ≤ d.kind ∧ d.kind ≤ 7 := by
  have ha := refV_in ((wordsF 4 [] s).getD 1 [])
  have hn := refV_in ((wordsF 4 [] s).getD 2 [])
  have hb3 := bigV_lt ((wordsF 4 [] s).getD 3 [])
  have hb2 := bigV_lt ((wordsF 4 [] s).getD 2 [])
  unfold candR at h
  generalize refV ((wordsF 4 [] s).getD 1 []) = A at *
  generalize refV ((wordsF 4 [] s).getD 2 []) = N at *
  generalize bigV ((wordsF 4 [] s).getD 3 []) = B3 at *
  generalize bigV ((wordsF 4 [] s).getD 2 []) = B2 at *
  split at h
  · cases h
    exact ⟨by simp [bareD], ⟨by simp, ha, by simp, by simp, by simp⟩, by simp, by simp⟩
  split at h
  · split at h
    · rename_i x hx
      split at h
      · rename_i b hb
        cases h
        have := unq_blen hb
        have := hw x hx
        exact ⟨by simp [bareD], ⟨by simp, ha, by simp, by simp, by simp only; omega⟩, by simp, by simp⟩
      · cases h
    · cases h
      exact ⟨by simp [bareD], ⟨by simp, ha, by simp, by simp, by simp⟩, by simp, by simp⟩
  split at h
  · cases h
    exact ⟨by simp [bareD], ⟨by simp, ha, hn, hb3, by simp⟩, by simp, by simp⟩
  split at h
  · cases h
    exact ⟨by simp [bareD], ⟨by simp, ha, hn, by simp, by simp⟩, by simp, by simp⟩
  split at h
  · cases h
    exact ⟨by simp [bareD], ⟨by simp, ha, by simp, by simp, by simp⟩, by simp, by simp⟩
  split at h
  · cases h
    exact ⟨by simp [bareD], ⟨by simp, ha, hn, by simp, by simp⟩, by simp, by simp⟩
  split at h
  · cases h
    exact ⟨by simp [bareD], ⟨by simp, ha, by simp, hb2, by simp⟩, by simp, by simp⟩
  · cases h

theorem words_len : ∀ (s : Bs) (m : Nat) (cur : Bs) (x : Bs), x ∈ wordsF m cur s → x.length ≤ cur.length + s.length
  | [], m, cur, x, h => by
    have : wordsF m cur [] = [cur] := by cases m <;> rfl
    rw [this] at h
    obtain rfl := List.mem_singleton.1 h
    simp
  | c :: r, m, cur, x, h => by
    rw [wordsF] at h
    split at h
    · rcases List.mem_cons.1 h with rfl | h
      · simp
      · have := words_len r _ _ x h
        simp at this ⊢
        omega
    · have := words_len r _ _ x h
      simp only [List.length_append, List.length_singleton, List.length_cons, List.length_nil] at this ⊢
      omega

theorem candP_of {s : Bs} {d : Deed} (h : Is s d) : candP s = some d := by
  obtain ⟨hb, hf, h1, h7, rfl⟩ := h
  obtain ⟨k, a, n, dr, b⟩ := d
  obtain ⟨hk, ha, hn, hdr, hbl⟩ := hf
  simp only at h1 h7 ha hn hdr hbl
  have na : ∀ b ∈ Lib.itoa a, b ≠ 32 := itoa_32 a
  have nn : ∀ b ∈ Lib.itoa n, b ≠ 32 := itoa_32 n
  have pa := parseV_itoa a ha.1 ha.2
  have pn := parseV_itoa n hn.1 hn.2
  have pd := draw_dec dr hdr
  have pq := unq_quote b
  unfold bareD at hb
  rcases (by omega : k = 1 ∨ k = 2 ∨ k = 3 ∨ k = 4 ∨ k = 5 ∨ k = 6 ∨ k = 7) with rfl | rfl | rfl | rfl | rfl | rfl | rfl
  · have e1 : cutB 32 (lineD ⟨1, a, n, dr, b⟩) = ([111, 112, 101, 110], Lib.itoa a, true) := cutB_hit (x := [111, 112, 101, 110]) (by decide) _
    have e2 : cutB 32 (Lib.itoa a) = (Lib.itoa a, [], false) := cutB_miss na
    simp at hb
    obtain ⟨⟨rfl, rfl⟩, rfl⟩ := hb
    unfold candP
    simp only [e1, e2, kind1, pa]
    simp
  · have e1 : cutB 32 (lineD ⟨2, a, n, dr, b⟩) = ([115, 101, 110, 100], Lib.itoa a ++ 32 :: quote b, true) := by
      have := cutB_hit (x := [115, 101, 110, 100]) (c := 32) (by decide) (Lib.itoa a ++ 32 :: quote b)
      rw [← this]; unfold lineD; simp
    have e2 : cutB 32 (Lib.itoa a ++ 32 :: quote b) = (Lib.itoa a, quote b, true) := cutB_hit na _
    simp at hb
    obtain ⟨rfl, rfl⟩ := hb
    unfold candP
    simp only [e1, e2, kind2, pa, pq]
    simp
  · have e1 : cutB 32 (lineD ⟨3, a, n, dr, b⟩) = ([117, 112], Lib.itoa a ++ 32 :: (Lib.itoa n ++ 32 :: decDigits dr), true) := by
      have := cutB_hit (x := [117, 112]) (c := 32) (by decide) (Lib.itoa a ++ 32 :: (Lib.itoa n ++ 32 :: decDigits dr))
      rw [← this]; unfold lineD; simp
    have e2 : cutB 32 (Lib.itoa a ++ 32 :: (Lib.itoa n ++ 32 :: decDigits dr)) = (Lib.itoa a, Lib.itoa n ++ 32 :: decDigits dr, true) := cutB_hit na _
    have e3 : cutB 32 (Lib.itoa n ++ 32 :: decDigits dr) = (Lib.itoa n, decDigits dr, true) := cutB_hit nn _
    simp at hb
    subst hb
    unfold candP
    simp only [e1, e2, e3, kind3, pa, pn, pd]
    simp
  · have e1 : cutB 32 (lineD ⟨4, a, n, dr, b⟩) = ([100, 111, 119, 110], Lib.itoa a ++ 32 :: Lib.itoa n, true) := by
      have := cutB_hit (x := [100, 111, 119, 110]) (c := 32) (by decide) (Lib.itoa a ++ 32 :: Lib.itoa n)
      rw [← this]; unfold lineD; simp
    have e2 : cutB 32 (Lib.itoa a ++ 32 :: Lib.itoa n) = (Lib.itoa a, Lib.itoa n, true) := cutB_hit na _
    have e3 : cutB 32 (Lib.itoa n) = (Lib.itoa n, [], false) := cutB_miss nn
    simp at hb
    obtain ⟨rfl, rfl⟩ := hb
    unfold candP
    simp only [e1, e2, e3, kind4, pa, pn]
    simp
  · have e1 : cutB 32 (lineD ⟨5, a, n, dr, b⟩) = ([99, 117, 116], Lib.itoa a, true) := by
      have := cutB_hit (x := [99, 117, 116]) (c := 32) (by decide) (Lib.itoa a)
      rw [← this]; unfold lineD; simp
    have e2 : cutB 32 (Lib.itoa a) = (Lib.itoa a, [], false) := cutB_miss na
    simp at hb
    obtain ⟨⟨rfl, rfl⟩, rfl⟩ := hb
    unfold candP
    simp only [e1, e2, kind5, pa]
    simp
  · have e1 : cutB 32 (lineD ⟨6, a, n, dr, b⟩) = ([116, 105, 99, 107], Lib.itoa a ++ 32 :: Lib.itoa n, true) := by
      have := cutB_hit (x := [116, 105, 99, 107]) (c := 32) (by decide) (Lib.itoa a ++ 32 :: Lib.itoa n)
      rw [← this]; unfold lineD; simp
    have e2 : cutB 32 (Lib.itoa a ++ 32 :: Lib.itoa n) = (Lib.itoa a, Lib.itoa n, true) := cutB_hit na _
    have e3 : cutB 32 (Lib.itoa n) = (Lib.itoa n, [], false) := cutB_miss nn
    simp at hb
    obtain ⟨rfl, rfl⟩ := hb
    unfold candP
    simp only [e1, e2, e3, kind6, pa, pn]
    simp
  · have e1 : cutB 32 (lineD ⟨7, a, n, dr, b⟩) = ([114, 101, 115, 116, 97, 114, 116], Lib.itoa a ++ 32 :: decDigits dr, true) := by
      have := cutB_hit (x := [114, 101, 115, 116, 97, 114, 116]) (c := 32) (by decide) (Lib.itoa a ++ 32 :: decDigits dr)
      rw [← this]; unfold lineD; simp
    have e2 : cutB 32 (Lib.itoa a ++ 32 :: decDigits dr) = (Lib.itoa a, decDigits dr, true) := cutB_hit na _
    simp at hb
    obtain ⟨rfl, rfl⟩ := hb
    unfold candP
    simp only [e1, e2, kind7, pa, pd]
    simp

theorem candR_of {s : Bs} {d : Deed} (h : Is s d) : candR s = some d := by
  obtain ⟨hb, hf, h1, h7, rfl⟩ := h
  obtain ⟨k, a, n, dr, b⟩ := d
  obtain ⟨hk, ha, hn, hdr, hbl⟩ := hf
  simp only at h1 h7 ha hn hdr hbl
  have na : ∀ b ∈ Lib.itoa a, b ≠ 32 := itoa_32 a
  have nn : ∀ b ∈ Lib.itoa n, b ≠ 32 := itoa_32 n
  have nd : ∀ b ∈ decDigits dr, b ≠ 32 := dec_32 dr
  have pa := ref_itoa a ha.1 ha.2
  have pn := ref_itoa n hn.1 hn.2
  have pd := big_dec dr hdr
  have pq := unq_quote b
  unfold bareD at hb
  rcases (by omega : k = 1 ∨ k = 2 ∨ k = 3 ∨ k = 4 ∨ k = 5 ∨ k = 6 ∨ k = 7) with rfl | rfl | rfl | rfl | rfl | rfl | rfl
  · have e1 : wordsF 4 [] (lineD ⟨1, a, n, dr, b⟩) = [[111, 112, 101, 110], Lib.itoa a] := by
      show wordsF 4 [] ([111, 112, 101, 110] ++ 32 :: Lib.itoa a) = _
      rw [wordsF_hit (by decide), wordsF_miss na]; rfl
    simp at hb
    obtain ⟨⟨rfl, rfl⟩, rfl⟩ := hb
    unfold candR
    simp only [e1, List.getD_cons_zero, List.getD_cons_succ, pa]
    simp
  · have e1 : wordsF 4 [] (lineD ⟨2, a, n, dr, b⟩) = [115, 101, 110, 100] :: Lib.itoa a :: wordsF 2 [] (quote b) := by
      have : lineD ⟨2, a, n, dr, b⟩ = [115, 101, 110, 100] ++ 32 :: (Lib.itoa a ++ 32 :: quote b) := by unfold lineD; simp
      rw [this, wordsF_hit (by decide), wordsF_hit na]; rfl
    have e2 : wordsF 2 [] (lineD ⟨2, a, n, dr, b⟩) = [[115, 101, 110, 100], Lib.itoa a, quote b] := by
      have : lineD ⟨2, a, n, dr, b⟩ = [115, 101, 110, 100] ++ 32 :: (Lib.itoa a ++ 32 :: quote b) := by unfold lineD; simp
      rw [this, wordsF_hit (by decide), wordsF_hit na, wordsF_zero]; rfl
    simp at hb
    obtain ⟨rfl, rfl⟩ := hb
    unfold candR
    simp only [e1, e2, List.getD_cons_zero, List.getD_cons_succ, pa]
    simp [pq]
  · have e1 : wordsF 4 [] (lineD ⟨3, a, n, dr, b⟩) = [[117, 112], Lib.itoa a, Lib.itoa n, decDigits dr] := by
      have : lineD ⟨3, a, n, dr, b⟩ = [117, 112] ++ 32 :: (Lib.itoa a ++ 32 :: (Lib.itoa n ++ 32 :: decDigits dr)) := by unfold lineD; simp
      rw [this, wordsF_hit (by decide), wordsF_hit na, wordsF_hit nn, wordsF_miss nd]; rfl
    simp at hb
    subst hb
    unfold candR
    simp only [e1, List.getD_cons_zero, List.getD_cons_succ, pa, pn, pd]
    simp
  · have e1 : wordsF 4 [] (lineD ⟨4, a, n, dr, b⟩) = [[100, 111, 119, 110], Lib.itoa a, Lib.itoa n] := by
      have : lineD ⟨4, a, n, dr, b⟩ = [100, 111, 119, 110] ++ 32 :: (Lib.itoa a ++ 32 :: Lib.itoa n) := by unfold lineD; simp
      rw [this, wordsF_hit (by decide), wordsF_hit na, wordsF_miss nn]; rfl
    simp at hb
    obtain ⟨rfl, rfl⟩ := hb
    unfold candR
    simp only [e1, List.getD_cons_zero, List.getD_cons_succ, pa, pn]
    simp
  · have e1 : wordsF 4 [] (lineD ⟨5, a, n, dr, b⟩) = [[99, 117, 116], Lib.itoa a] := by
      have : lineD ⟨5, a, n, dr, b⟩ = [99, 117, 116] ++ 32 :: Lib.itoa a := by unfold lineD; simp
      rw [this, wordsF_hit (by decide), wordsF_miss na]; rfl
    simp at hb
    obtain ⟨⟨rfl, rfl⟩, rfl⟩ := hb
    unfold candR
    simp only [e1, List.getD_cons_zero, List.getD_cons_succ, pa]
    simp
  · have e1 : wordsF 4 [] (lineD ⟨6, a, n, dr, b⟩) = [[116, 105, 99, 107], Lib.itoa a, Lib.itoa n] := by
      have : lineD ⟨6, a, n, dr, b⟩ = [116, 105, 99, 107] ++ 32 :: (Lib.itoa a ++ 32 :: Lib.itoa n) := by unfold lineD; simp
      rw [this, wordsF_hit (by decide), wordsF_hit na, wordsF_miss nn]; rfl
    simp at hb
    obtain ⟨rfl, rfl⟩ := hb
    unfold candR
    simp only [e1, List.getD_cons_zero, List.getD_cons_succ, pa, pn]
    simp
  · have e1 : wordsF 4 [] (lineD ⟨7, a, n, dr, b⟩) = [[114, 101, 115, 116, 97, 114, 116], Lib.itoa a, decDigits dr] := by
      have : lineD ⟨7, a, n, dr, b⟩ = [114, 101, 115, 116, 97, 114, 116] ++ 32 :: (Lib.itoa a ++ 32 :: decDigits dr) := by unfold lineD; simp
      rw [this, wordsF_hit (by decide), wordsF_hit na, wordsF_miss nd]; rfl
    simp at hb
    obtain ⟨rfl, rfl⟩ := hb
    unfold candR
    simp only [e1, List.getD_cons_zero, List.getD_cons_succ, pa, pd]
    simp

theorem parseP_is {s : Bs} (hs : s.length ≤ 9000) (d : Deed) : parseP s = some d ↔ Is s d := by
  constructor
  · intro h
    unfold parseP at h
    split at h
    · rename_i d' hd
      split at h
      · rename_i hc
        cases h
        obtain ⟨h1, h2, h3⟩ := candP_fits hs hd
        exact ⟨h1, h2, hc.1, h3, hc.2⟩
      · cases h
    · cases h
  · intro h
    unfold parseP
    rw [candP_of h]
    exact if_pos ⟨h.2.2.1, h.2.2.2.2⟩
theorem parseR_is {s : Bs} (hs : s.length ≤ 9000) (d : Deed) : parseR s = some d ↔ Is s d := by
  have hw : ∀ x, (wordsF 2 [] s)[2]? = some x → x.length ≤ 9000 := fun x hx => by
    have := words_len s 2 [] x (List.mem_of_getElem? hx)
    simp only [List.length_nil] at this
    omega
  constructor
  · intro h
    unfold parseR at h
    split at h
    · rename_i d' hd
      split at h
      · rename_i hc
        cases h
        obtain ⟨h1, h2, h3, h4⟩ := candR_fits hs hw hd
        exact ⟨h1, h2, h3, h4, hc⟩
      · cases h
    · cases h
  · intro h
    unfold parseR
    rw [candR_of h]
    exact if_pos h.2.2.2.2
/-- Both are one. -/
theorem parseR_P {s : Bs} (hs : s.length ≤ 9000) : parseR s = parseP s := by
  cases h : parseP s with
  | some d => exact (parseR_is hs d).2 ((parseP_is hs d).1 h)
  | none =>
    cases h2 : parseR s with
    | none => rfl
    | some d => rw [(parseP_is hs d).2 ((parseR_is hs d).1 h2)] at h; cases h
end Go.Proofs.YtdinkdmkbfbjbaaGreatDoor
namespace Go.Proofs.YtdinkdmkbfbjbaaGreatDoor
open Go.RowKit

/-- internal/bytealg.MaxLen is some int. -/
def Mx (w : World) : Prop := ∃ m, w.cell? ⟨0, 0, none⟩ = some (.int .i64 m)
theorem Mx.kept {w w' : World} (h : Mx w) (hk : Kept NoBlock w w') : Mx w' := by
  obtain ⟨m, hm⟩ := h
  exact ⟨m, by rw [World.cell?_of_block (w := w) (hk.block _ (cell_lt hm) (fun h => h))]; exact hm⟩

theorem pcut (l : Bs) (hl : l.length ≤ 1000000000) (c : UInt8) (w : World) (hM : Mx w) :
    Calls Tryz.prog 8 #[.string ⟨l.toArray⟩, .string ⟨#[c]⟩] w fun e w' => e = .returned (.tuple #[.string ⟨(cutB c l).1.toArray⟩, .string ⟨(cutB c l).2.1.toArray⟩, .bool (cutB c l).2.2]) ∧ Kept NoBlock w w' := by
  obtain ⟨m, hm⟩ := hM
  refine (Tryz.strings_Cut ⟨l.toArray⟩ ⟨#[c]⟩ m w (by rw [str_size rfl]; omega) hm).mono ?_
  rintro e w' ⟨rfl, n, rfl⟩
  have e1 : (⟨l.toArray⟩ : ByteArray).data.toList = l := rfl
  have e2 : (⟨#[c]⟩ : ByteArray).data.toList = [c] := rfl
  rw [e1, e2, cut_eq]
  exact ⟨rfl, (Kept.refl _ _).drewN _⟩

theorem results_cell_tmp {fn : Func} {p q : Tmp} {ty : TypeId} (h : fn.results = #[.cell p ty, .tmp q]) (tmps : Array Value) {P : Program} {w : World} {ad : Addr} {v : Value}
    (hp : tmps.getD p undef = .pointer (some ad)) (hl : (loadVar ty ad).run P w = .ok v w) :
    (results fn tmps).run P w = .ok (.tuple #[v, tmps.getD q undef]) w := by
  rw [Array.getD_eq_getD_getElem?] at hp
  simp [results, h, Sem.run_bind, Result.andThen, hp, asAddr, hl]

/-- A slice of bytes lies in a block of bytes. -/
def TypedB (w : World) (v : Value) : Prop := ∀ k, vblk v = some k → ∃ cs fz, w.heap[k]? = some (.cells cs 5 fz)
theorem TypedB.kept {w w' : World} {v : Value} (h : TypedB w v) (hk : Kept NoBlock w w') : TypedB w' v := fun k hv => by
  obtain ⟨cs, fz, e⟩ := h k hv
  exact ⟨cs, fz, hk.heap e (fun h => h)⟩

/-- What a Parse leaves. -/
def ParseEnd (r : Option Deed) (w : World) (e : Ending) (w' : World) : Prop :=
  Kept NoBlock w w' ∧ match r with
  | some d => ∃ bv, e = .returned (.tuple #[.agg #[.int .i64 d.kind, .int .i64 d.a, .int .i64 d.n, .int .u64 d.draw, bv], .int .i64 0]) ∧ BytesV w' bv d.b ∧ TypedB w' bv
  | none => ∃ v, e = .returned (.tuple #[v, .int .i64 251]) ∧ DeedV w' v ⟨0, 0, 0, 0, []⟩

theorem Kept.own5 {w w' : World} (h : Kept NoBlock w w') {g : Nat} (hg : w.heap.size ≤ g) (v0 v1 v2 v3 v4 : Value) :
    Kept NoBlock w (((((w'.setCell ⟨g, 0, none⟩ v0).setCell ⟨g, 1, none⟩ v1).setCell ⟨g, 2, none⟩ v2).setCell ⟨g, 3, none⟩ v3).setCell ⟨g, 4, none⟩ v4) :=
  ((((h.own hg 0 v0).own hg 1 v1).own hg 2 v2).own hg 3 v3).own hg 4 v4
theorem none_end {r : Option Deed} {w w' : World} (hr : r = none) (hk : Kept NoBlock w w') :
    ParseEnd r w (.returned (.tuple #[.agg #[.int .i64 0, .int .i64 0, .int .i64 0, .int .u64 0, .slice none 0 0], .int .i64 251])) w' := by
  subst hr; exact ⟨hk, _, rfl, _, rfl, BytesV.nil _⟩
theorem Kept.one (w : World) (g i : Nat) (v : Value) : Kept (fun k => k = g) w (w.setCell ⟨g, i, none⟩ v) := Kept.setCell (S := fun k => k = g) (p := ⟨g, i, none⟩) (Kept.refl _ _) (fun _ => rfl) v
theorem Kept.one' {w w' : World} {g : Nat} (h : Kept (fun k => k = g) w w') (i : Nat) (v : Value) : Kept (fun k => k = g) w (w'.setCell ⟨g, i, none⟩ v) := h.setCell (p := ⟨g, i, none⟩) (fun _ => rfl) v

/-- As 'some_end': the deed's bytes do not lie in the results' box. -/
theorem some_end2 {r : Option Deed} {w w1 : World} {D : Deed} {v : Value} {bv : Value} (hr : r = some D) (hv : DeedV w1 v D) (hcs : v = .agg #[.int .i64 D.kind, .int .i64 D.a, .int .i64 D.n, .int .u64 D.draw, bv]) (hb : ∀ k, vblk bv = some k → k ≠ w.heap.size) (ht : TypedB w1 bv)
    (hk1 : Kept NoBlock w w1) (v0 v1 v2 v3 v4 : Value) :
    ParseEnd r w (.returned (.tuple #[v, .int .i64 0])) (((((w1.setCell ⟨w.heap.size, 0, none⟩ v0).setCell ⟨w.heap.size, 1, none⟩ v1).setCell ⟨w.heap.size, 2, none⟩ v2).setCell ⟨w.heap.size, 3, none⟩ v3).setCell ⟨w.heap.size, 4, none⟩ v4) := by
  subst hr hcs
  have hst : Kept (fun k => k = w.heap.size) w1 (((((w1.setCell ⟨w.heap.size, 0, none⟩ v0).setCell ⟨w.heap.size, 1, none⟩ v1).setCell ⟨w.heap.size, 2, none⟩ v2).setCell ⟨w.heap.size, 3, none⟩ v3).setCell ⟨w.heap.size, 4, none⟩ v4) :=
    ((((Kept.one w1 _ 0 v0).one' 1 v1).one' 2 v2).one' 3 v3).one' 4 v4
  obtain ⟨bv', e, hb'⟩ := hv
  cases e
  refine ⟨hk1.own5 (Nat.le_refl _) _ _ _ _ _, _, rfl, BytesV.kept hb' hst hb, fun k hk => ?_⟩
  obtain ⟨cs, fz, e⟩ := ht k hk
  exact ⟨cs, fz, hst.heap e (hb k hk)⟩
end Go.Proofs.YtdinkdmkbfbjbaaGreatDoor
namespace Go.Proofs.YtdinkdmkbfbjbaaGreatDoor
open Go.RowKit
attribute [local go_sem] fold_part fold_some fold_some' partAt_zero

set_option maxRecDepth 100000 in
set_option maxHeartbeats 3200000 in
theorem pparse2t (s : Bs) (hs : s.length ≤ 9000) (w : World) (hV : Vs w) (hM : Mx w) (hk0 : kindV (cutB 32 s).1 = 2) (hA : (parseV (cutB 32 (cutB 32 s).2.1).1).2 = 0) :
    Calls Tryz.prog 10 #[.string ⟨s.toArray⟩] w (ParseEnd (parseP s) w) := by
  have hl1 := cutB_len 32 s
  have hl2 := cutB_len 32 (cutB 32 s).2.1
  have hl3 := cutB_len 32 (cutB 32 (cutB 32 s).2.1).2.1
  have c1 := fun W (hk : Kept NoBlock w W) => pcut s (by omega) 32 W (hM.kept hk)
  have c2 := fun W (hk : Kept NoBlock w W) => pcut (cutB 32 s).2.1 (by omega) 32 W (hM.kept hk)
  have c3 := fun W (hk : Kept NoBlock w W) => pcut (cutB 32 (cutB 32 s).2.1).2.1 (by omega) 32 W (hM.kept hk)
  have cw := fun W (hk : Kept NoBlock w W) => pwhole (cutB 32 (cutB 32 s).2.1).1 (by omega) W (hV.below hk.toB)
  have ck := fun W => pkind (cutB 32 s).1 W
  have cn := fun W (hk : Kept NoBlock w W) => pwhole (cutB 32 (cutB 32 (cutB 32 s).2.1).2.1).1 (by omega) W (hV.below hk.toB)
  have cu := fun W => punq (cutB 32 (cutB 32 s).2.1).2.1 (by omega) W
  have cd3 := fun W (hk : Kept NoBlock w W) => pparseU ⟨(cutB 32 (cutB 32 (cutB 32 s).2.1).2.1).2.1.toArray⟩ (by rw [str_size rfl]; omega) W (hV.below hk.toB)
  have cd2 := fun W (hk : Kept NoBlock w W) => pparseU ⟨(cutB 32 (cutB 32 s).2.1).2.1.toArray⟩ (by rw [str_size rfl]; omega) W (hV.below hk.toB)
  have cl := fun D v W (hf : Deed.Fits D) (hk : Kept NoBlock w W) (h : DeedV W v D) => pline v D W (hV.below hk.toB) h hf
  have hav := parseV_in (cutB 32 (cutB 32 s).2.1).1
  have hnv := parseV_in (cutB 32 (cutB 32 (cutB 32 s).2.1).2.1).1
  have hub : ∀ b, unq (cutB 32 (cutB 32 s).2.1).2.1 = .ok b → b.length ≤ 9000 := fun b hb => by have := unq_blen hb; omega
  generalize hr : parseP s = r
  unfold parseP candP at hr
  rw [hk0] at hr ck
  clear hk0
  generalize (cutB 32 s).1 = l0 at *
  generalize (cutB 32 s).2.2 = b0 at *
  generalize (cutB 32 s).2.1 = l1 at *
  generalize (cutB 32 l1).2.2 = b1 at *
  generalize parseV (cutB 32 l1).1 = A at *
  generalize (cutB 32 l1).1 = l2 at *
  generalize (cutB 32 l1).2.1 = l3 at *
  generalize (cutB 32 l3).2.2 = b2 at *
  generalize parseV (cutB 32 l3).1 = N at *
  generalize (cutB 32 l3).1 = l4 at *
  generalize (cutB 32 l3).2.1 = l5 at *
  obtain ⟨S, hS⟩ : ∃ S : ByteArray, S = ⟨s.toArray⟩ := ⟨_, rfl⟩
  generalize (⟨l0.toArray⟩ : ByteArray) = S0 at *
  generalize (⟨l1.toArray⟩ : ByteArray) = S1 at *
  generalize (⟨l2.toArray⟩ : ByteArray) = S2 at *
  obtain ⟨S3, hS3⟩ : ∃ S : ByteArray, S = ⟨l3.toArray⟩ := ⟨_, rfl⟩
  generalize (⟨l4.toArray⟩ : ByteArray) = S4 at *
  obtain ⟨S5, hS5⟩ : ∃ S : ByteArray, S = ⟨l5.toArray⟩ := ⟨_, rfl⟩
  rw [← hS] at c1 ⊢
  rw [← hS3] at c2 c3 cd2 cu
  rw [← hS5] at c3 cd3
  obtain ⟨A1, A2⟩ := A
  simp only at hA
  subst hA
  have e0 : ((0 : Int) == 0) = true := rfl
  rw [e0] at cw
  clear e0
  obtain ⟨N1, N2⟩ := N
  have H1 := Lib.hid c1
  have H2 := Lib.hid c2
  have H3 := Lib.hid c3
  have HW := Lib.hid cw
  have HKD := Lib.hid ck
  have HN := Lib.hid cn
  have HU := Lib.hid cu
  have HD3 := Lib.hid cd3
  have HD2 := Lib.hid cd2
  have HL := Lib.hid cl
  have HAV := Lib.hid hav
  have HNV := Lib.hid hnv
  have HS := Lib.hid hS
  have HS3 := Lib.hid hS3
  have HS5 := Lib.hid hS5
  have HR := Lib.hid hr
  have HUB := Lib.hid hub
  clear c1 c2 c3 cw ck cn cu cd3 cd2 cl hav hnv hS hS3 hS5 hr hub hl1 hl2 hl3 hV hM hs
  have hk1 : Kept NoBlock w (w.alloc (.cells #[.int .i64 0, .int .i64 0, .int .i64 0, .int .u64 0, .slice none 0 0] 45)) := Kept.allocd _ _
  have hd1 := heap_alloc_new w (.cells #[.int .i64 0, .int .i64 0, .int .i64 0, .int .u64 0, .slice none 0 0] 45)
  have HK1 := Lib.hid hk1
  have HD1 := Lib.hid hd1
  clear hk1 hd1
  go_enter Tryz.func10, Tryz.ntmps10
  go_wp2_with fail
  generalize w.alloc (.cells #[.int .i64 0, .int .i64 0, .int .i64 0, .int .u64 0, .slice none 0 0] 45) = W1 at *
  refine (H1.out _ HK1.out).mono ?_
  rintro e w2 ⟨rfl, hk⟩
  have HK2 := Lib.hid (HK1.out.trans hk)
  have HD2b := Lib.hid (hk.heap HD1.out (fun h => h))
  clear hk HD1
  go_wp2_with fail
  refine (H2.out _ HK2.out).mono ?_
  rintro e w3 ⟨rfl, hk⟩
  have HK3 := Lib.hid (HK2.out.trans hk)
  have HD3b := Lib.hid (hk.heap HD2b.out (fun h => h))
  clear hk HD2b
  go_wp2_with fail
  refine (H3.out _ HK3.out).mono ?_
  rintro e w4 ⟨rfl, hk⟩
  have HK4 := Lib.hid (HK3.out.trans hk)
  have HD4b := Lib.hid (hk.heap HD3b.out (fun h => h))
  clear hk HD3b
  go_wp2_with fail
  refine (HW.out _ HK4.out).mono ?_
  rintro e w5 ⟨rfl, hk⟩
  have HK5 := Lib.hid (HK4.out.trans hk)
  have HD5b := Lib.hid (hk.heap HD4b.out (fun h => h))
  clear hk HD4b
  go_wp2_with fail
  refine (HKD.out _).mono ?_
  rintro e w6 ⟨rfl, hk⟩
  have HK6 := Lib.hid (HK5.out.trans hk)
  have HD6b := Lib.hid (hk.heap HD5b.out (fun h => h))
  clear hk HD5b
  go_wp2_with fail
  obtain ⟨G, hG⟩ : ∃ G, G = w6.heap.size := ⟨_, rfl⟩
  have hGH : w.heap.size < G := by rw [hG]; exact lt_of_heap HD6b.out
  have hg7 : (w6.alloc (.cells #[.int .i64 2, .int .i64 A1, .int .i64 0, .int .u64 0, .slice none 0 0] 45)).heap[G]? = some (.cells #[.int .i64 2, .int .i64 A1, .int .i64 0, .int .u64 0, .slice none 0 0] 45 (0, 0)) := by rw [hG]; exact heap_alloc_new _ _
  have hh7 := (Kept.allocd w6 (.cells #[.int .i64 2, .int .i64 A1, .int .i64 0, .int .u64 0, .slice none 0 0] 45)).heap HD6b.out (fun h => h)
  have hk7 := HK6.out.alloc (.cells #[.int .i64 2, .int .i64 A1, .int .i64 0, .int .u64 0, .slice none 0 0] 45)
  rw [← hG]
  generalize w6.alloc (.cells #[.int .i64 2, .int .i64 A1, .int .i64 0, .int .u64 0, .slice none 0 0] 45) = W7 at *
  clear hG HD6b
  have hne1 : ¬ (G = w.heap.size) := by omega
  have hne2 : ¬ (w.heap.size = G) := by omega
  have HK7 := Lib.hid hk7
  have HG7 := Lib.hid hg7
  have HH7 := Lib.hid hh7
  clear hk7 hg7 hh7
  have hu := HU.out W7
  generalize unq l3 = U at *
  clear HU
  refine hu.mono ?_
  rintro e w8 ⟨hk, hend⟩
  have HK8 := Lib.hid (HK7.out.trans hk)
  have HG8 := Lib.hid (hk.heap HG7.out (fun h => h))
  have HH8 := Lib.hid (hk.heap HH7.out (fun h => h))
  have hw78 := hk.size
  clear hk hu
  cases U with
  | error n =>
    obtain rfl := hend
    have HRR := Lib.hid (show r = none by have hr := HR.out; simpa using hr.symm)
    clear HR
    obtain ⟨y0, y1, y2, y3, y4⟩ := blk5 HG8.out
    have yf := fun i => frozenB HG8.out i
    obtain ⟨z0, z1, z2, z3, z4⟩ := blk5 HH8.out
    have zf := fun i => frozenB HH8.out i
    go_wp2_with fail
    refine bodyPost_ret (v := .tuple #[.agg #[.int .i64 0, .int .i64 0, .int .i64 0, .int .u64 0, .slice none 0 0], .int .i64 251]) (results_cell_tmp (q := 3) (ty := 45) (ad := ⟨w.heap.size, 0, none⟩) rfl _ rfl (by go_simp)) rfl (none_end HRR.out ?_)
    refine Kept.own5 ?_ (Nat.le_refl _) _ _ _ _ _
    refine Kept.own ?_ (Nat.le_of_lt hGH) _ _
    exact HK8.out
  | ok b =>
    obtain ⟨v, rfl, hv⟩ := hend
    obtain ⟨ap, cap, rfl, _⟩ := hv.bytes.parts
    have HNB := Lib.hid (show ∀ k, vblk (.slice ap b.length cap) = some k → k ≠ w.heap.size by
      intro k hk e
      have := hv.blk k hk
      have := lt_of_heap HH7.out
      omega)
    have hbl := HUB.out b rfl
    have HHV := Lib.hid hv
    have HBL := Lib.hid hbl
    clear hv hbl
    obtain ⟨y0, y1, y2, y3, y4⟩ := blk5 HG8.out
    have yf := fun i => frozenB HG8.out i
    obtain ⟨z0, z1, z2, z3, z4⟩ := blk5 HH8.out
    have zf := fun i => frozenB HH8.out i
    go_wp2_with fail
    clear y0 y1 y2 y3 y4 yf z0 z1 z2 z3 z4 zf
    have hg9 : (w8.setCell ⟨G, 4, none⟩ (.slice ap b.length cap)).heap[G]? = some (.cells #[.int .i64 2, .int .i64 A1, .int .i64 0, .int .u64 0, .slice ap b.length cap] 45 (0, 0)) := by have := (heap_setCell_same HG8.out 4 (.slice ap b.length cap)); simpa using this
    have hh9 := (heap_set_ne (p := ⟨G, 4, none⟩) (v := .slice ap b.length cap) HH8.out hne2)
    have hk9 := (HK8.out.own (g := G) (Nat.le_of_lt hGH) 4 (.slice ap b.length cap))
    have hdv : DeedV (w8.setCell ⟨G, 4, none⟩ (.slice ap b.length cap)) (.agg #[.int .i64 2, .int .i64 A1, .int .i64 0, .int .u64 0, .slice ap b.length cap]) (⟨2, A1, 0, 0, b⟩ : Deed) := ⟨_, rfl, (BytesV.kept (S := fun k => k = G) HHV.out.bytes (Kept.one _ _ _ _) (fun k hk e => by have := HHV.out.blk k hk; have := lt_of_heap HG7.out; omega))⟩
    have htb : TypedB (w8.setCell ⟨G, 4, none⟩ (.slice ap b.length cap)) (.slice ap b.length cap) := (fun k hk => by obtain ⟨cs, fz, e⟩ := OwnM.typed HHV.out k hk; exact ⟨cs, fz, heap_set_ne (p := ⟨G, 4, none⟩) e (by have := HHV.out.blk k hk; have := lt_of_heap HG7.out; simp only; omega)⟩)
    generalize (w8.setCell ⟨G, 4, none⟩ (.slice ap b.length cap)) = W9 at *
    have HG9 := Lib.hid hg9
    have HH9 := Lib.hid hh9
    have HK9 := Lib.hid hk9
    have hl := HL.out (⟨2, A1, 0, 0, b⟩ : Deed) _ W9 ⟨by simp, HAV.out, by simp, by simp, HBL.out⟩ hk9 hdv
    have HDV := Lib.hid hdv
    have HTB := Lib.hid htb
    clear hg9 hh9 hk9 hdv htb HL
    by_cases hL : lineD (⟨2, A1, 0, 0, b⟩ : Deed) = s
    · have HRR := Lib.hid (show r = some (⟨2, A1, 0, 0, b⟩ : Deed) by have hr := HR.out; simpa [hL] using hr.symm)
      have hLe : (⟨(lineD (⟨2, A1, 0, 0, b⟩ : Deed)).toArray⟩ : ByteArray) = S := by rw [hL, HS.out]
      rw [hLe] at hl
      clear HR hL hLe
      refine hl.mono ?_
      rintro e w10 ⟨rfl, hk10⟩
      have HK10 := Lib.hid hk10
      have HH10 := Lib.hid (hk10.heap HH9.out (fun h => h))
      have HG10 := Lib.hid (hk10.heap HG9.out (fun h => h))
      clear hl hk10
      obtain ⟨y0, y1, y2, y3, y4⟩ := blk5 HG10.out
      have yf := fun i => frozenB HG10.out i
      obtain ⟨z0, z1, z2, z3, z4⟩ := blk5 HH10.out
      have zf := fun i => frozenB HH10.out i
      go_wp2_with fail
      refine bodyPost_ret (v := .tuple #[.agg #[.int .i64 2, .int .i64 A1, .int .i64 0, .int .u64 0, .slice ap b.length cap], .int .i64 0]) (results_cell_tmp (q := 3) (ty := 45) (ad := ⟨w.heap.size, 0, none⟩) rfl _ rfl (by go_simp)) rfl (some_end2 (D := (⟨2, A1, 0, 0, b⟩ : Deed)) HRR.out (HDV.out.kept HK10.out) rfl HNB.out (HTB.out.kept HK10.out) (HK9.out.trans HK10.out) _ _ _ _ _)
    · have HRR := Lib.hid (show r = none by have hr := HR.out; simpa [hL] using hr.symm)
      obtain ⟨T, hT⟩ : ∃ T : ByteArray, T = ⟨(lineD (⟨2, A1, 0, 0, b⟩ : Deed)).toArray⟩ := ⟨_, rfl⟩
      have hse : ¬ (T = S) := fun h => hL (by rw [hT, HS.out] at h; simpa using h)
      have hse' : (T.toList == S.toList) = false := by
        rw [beq_eq_false_iff_ne, Go.ByteArray.toList_eq, Go.ByteArray.toList_eq]
        exact fun h => hse (ByteArray.ext (Array.ext' h))
      rw [← hT] at hl
      clear HR hL hT
      refine hl.mono ?_
      rintro e w10 ⟨rfl, hk10⟩
      have HK10 := Lib.hid (HK9.out.trans hk10)
      have HH10 := Lib.hid (hk10.heap HH9.out (fun h => h))
      have HG10 := Lib.hid (hk10.heap HG9.out (fun h => h))
      clear hl hk10
      obtain ⟨y0, y1, y2, y3, y4⟩ := blk5 HG10.out
      have yf := fun i => frozenB HG10.out i
      obtain ⟨z0, z1, z2, z3, z4⟩ := blk5 HH10.out
      have zf := fun i => frozenB HH10.out i
      go_wp2_with fail
      refine bodyPost_ret (v := .tuple #[.agg #[.int .i64 0, .int .i64 0, .int .i64 0, .int .u64 0, .slice none 0 0], .int .i64 251]) (results_cell_tmp (q := 3) (ty := 45) (ad := ⟨w.heap.size, 0, none⟩) rfl _ rfl (by go_simp)) rfl (none_end HRR.out ?_)
      refine Kept.own5 ?_ (Nat.le_refl _) _ _ _ _ _
      exact HK10.out
end Go.Proofs.YtdinkdmkbfbjbaaGreatDoor
namespace Go.Proofs.YtdinkdmkbfbjbaaGreatDoor
open Go.RowKit
attribute [local go_sem] fold_part fold_some fold_some' partAt_zero

set_option maxRecDepth 100000 in
set_option maxHeartbeats 3200000 in
theorem pparse2f (s : Bs) (hs : s.length ≤ 9000) (w : World) (hV : Vs w) (hM : Mx w) (hk0 : kindV (cutB 32 s).1 = 2) (hA : (parseV (cutB 32 (cutB 32 s).2.1).1).2 ≠ 0) :
    Calls Tryz.prog 10 #[.string ⟨s.toArray⟩] w (ParseEnd (parseP s) w) := by
  have hl1 := cutB_len 32 s
  have hl2 := cutB_len 32 (cutB 32 s).2.1
  have hl3 := cutB_len 32 (cutB 32 (cutB 32 s).2.1).2.1
  have c1 := fun W (hk : Kept NoBlock w W) => pcut s (by omega) 32 W (hM.kept hk)
  have c2 := fun W (hk : Kept NoBlock w W) => pcut (cutB 32 s).2.1 (by omega) 32 W (hM.kept hk)
  have c3 := fun W (hk : Kept NoBlock w W) => pcut (cutB 32 (cutB 32 s).2.1).2.1 (by omega) 32 W (hM.kept hk)
  have cw := fun W (hk : Kept NoBlock w W) => pwhole (cutB 32 (cutB 32 s).2.1).1 (by omega) W (hV.below hk.toB)
  have ck := fun W => pkind (cutB 32 s).1 W
  have cn := fun W (hk : Kept NoBlock w W) => pwhole (cutB 32 (cutB 32 (cutB 32 s).2.1).2.1).1 (by omega) W (hV.below hk.toB)
  have cu := fun W => punq (cutB 32 (cutB 32 s).2.1).2.1 (by omega) W
  have cd3 := fun W (hk : Kept NoBlock w W) => pparseU ⟨(cutB 32 (cutB 32 (cutB 32 s).2.1).2.1).2.1.toArray⟩ (by rw [str_size rfl]; omega) W (hV.below hk.toB)
  have cd2 := fun W (hk : Kept NoBlock w W) => pparseU ⟨(cutB 32 (cutB 32 s).2.1).2.1.toArray⟩ (by rw [str_size rfl]; omega) W (hV.below hk.toB)
  have cl := fun D v W (hf : Deed.Fits D) (hk : Kept NoBlock w W) (h : DeedV W v D) => pline v D W (hV.below hk.toB) h hf
  have hav := parseV_in (cutB 32 (cutB 32 s).2.1).1
  have hnv := parseV_in (cutB 32 (cutB 32 (cutB 32 s).2.1).2.1).1
  have hub : ∀ b, unq (cutB 32 (cutB 32 s).2.1).2.1 = .ok b → b.length ≤ 9000 := fun b hb => by have := unq_blen hb; omega
  generalize hr : parseP s = r
  unfold parseP candP at hr
  rw [hk0] at hr ck
  clear hk0
  generalize (cutB 32 s).1 = l0 at *
  generalize (cutB 32 s).2.2 = b0 at *
  generalize (cutB 32 s).2.1 = l1 at *
  generalize (cutB 32 l1).2.2 = b1 at *
  generalize parseV (cutB 32 l1).1 = A at *
  generalize (cutB 32 l1).1 = l2 at *
  generalize (cutB 32 l1).2.1 = l3 at *
  generalize (cutB 32 l3).2.2 = b2 at *
  generalize parseV (cutB 32 l3).1 = N at *
  generalize (cutB 32 l3).1 = l4 at *
  generalize (cutB 32 l3).2.1 = l5 at *
  obtain ⟨S, hS⟩ : ∃ S : ByteArray, S = ⟨s.toArray⟩ := ⟨_, rfl⟩
  generalize (⟨l0.toArray⟩ : ByteArray) = S0 at *
  generalize (⟨l1.toArray⟩ : ByteArray) = S1 at *
  generalize (⟨l2.toArray⟩ : ByteArray) = S2 at *
  obtain ⟨S3, hS3⟩ : ∃ S : ByteArray, S = ⟨l3.toArray⟩ := ⟨_, rfl⟩
  generalize (⟨l4.toArray⟩ : ByteArray) = S4 at *
  obtain ⟨S5, hS5⟩ : ∃ S : ByteArray, S = ⟨l5.toArray⟩ := ⟨_, rfl⟩
  rw [← hS] at c1 ⊢
  rw [← hS3] at c2 c3 cd2 cu
  rw [← hS5] at c3 cd3
  obtain ⟨A1, A2⟩ := A
  simp only at hA
  have e0 : (A2 == 0) = false := by simpa using hA
  rw [e0] at cw
  have HA := Lib.hid hA
  clear e0 hA
  obtain ⟨N1, N2⟩ := N
  have H1 := Lib.hid c1
  have H2 := Lib.hid c2
  have H3 := Lib.hid c3
  have HW := Lib.hid cw
  have HKD := Lib.hid ck
  have HN := Lib.hid cn
  have HU := Lib.hid cu
  have HD3 := Lib.hid cd3
  have HD2 := Lib.hid cd2
  have HL := Lib.hid cl
  have HAV := Lib.hid hav
  have HNV := Lib.hid hnv
  have HS := Lib.hid hS
  have HS3 := Lib.hid hS3
  have HS5 := Lib.hid hS5
  have HR := Lib.hid hr
  have HUB := Lib.hid hub
  clear c1 c2 c3 cw ck cn cu cd3 cd2 cl hav hnv hS hS3 hS5 hr hub hl1 hl2 hl3 hV hM hs
  have hk1 : Kept NoBlock w (w.alloc (.cells #[.int .i64 0, .int .i64 0, .int .i64 0, .int .u64 0, .slice none 0 0] 45)) := Kept.allocd _ _
  have hd1 := heap_alloc_new w (.cells #[.int .i64 0, .int .i64 0, .int .i64 0, .int .u64 0, .slice none 0 0] 45)
  have HK1 := Lib.hid hk1
  have HD1 := Lib.hid hd1
  clear hk1 hd1
  go_enter Tryz.func10, Tryz.ntmps10
  go_wp2_with fail
  generalize w.alloc (.cells #[.int .i64 0, .int .i64 0, .int .i64 0, .int .u64 0, .slice none 0 0] 45) = W1 at *
  refine (H1.out _ HK1.out).mono ?_
  rintro e w2 ⟨rfl, hk⟩
  have HK2 := Lib.hid (HK1.out.trans hk)
  have HD2b := Lib.hid (hk.heap HD1.out (fun h => h))
  clear hk HD1
  go_wp2_with fail
  refine (H2.out _ HK2.out).mono ?_
  rintro e w3 ⟨rfl, hk⟩
  have HK3 := Lib.hid (HK2.out.trans hk)
  have HD3b := Lib.hid (hk.heap HD2b.out (fun h => h))
  clear hk HD2b
  go_wp2_with fail
  refine (H3.out _ HK3.out).mono ?_
  rintro e w4 ⟨rfl, hk⟩
  have HK4 := Lib.hid (HK3.out.trans hk)
  have HD4b := Lib.hid (hk.heap HD3b.out (fun h => h))
  clear hk HD3b
  go_wp2_with fail
  refine (HW.out _ HK4.out).mono ?_
  rintro e w5 ⟨rfl, hk⟩
  have HK5 := Lib.hid (HK4.out.trans hk)
  have HD5b := Lib.hid (hk.heap HD4b.out (fun h => h))
  clear hk HD4b
  go_wp2_with fail
  refine (HKD.out _).mono ?_
  rintro e w6 ⟨rfl, hk⟩
  have HK6 := Lib.hid (HK5.out.trans hk)
  have HD6b := Lib.hid (hk.heap HD5b.out (fun h => h))
  clear hk HD5b
  go_wp2_with fail
  obtain ⟨G, hG⟩ : ∃ G, G = w6.heap.size := ⟨_, rfl⟩
  have hGH : w.heap.size < G := by rw [hG]; exact lt_of_heap HD6b.out
  have hg7 : (w6.alloc (.cells #[.int .i64 2, .int .i64 A1, .int .i64 0, .int .u64 0, .slice none 0 0] 45)).heap[G]? = some (.cells #[.int .i64 2, .int .i64 A1, .int .i64 0, .int .u64 0, .slice none 0 0] 45 (0, 0)) := by rw [hG]; exact heap_alloc_new _ _
  have hh7 := (Kept.allocd w6 (.cells #[.int .i64 2, .int .i64 A1, .int .i64 0, .int .u64 0, .slice none 0 0] 45)).heap HD6b.out (fun h => h)
  have hk7 := HK6.out.alloc (.cells #[.int .i64 2, .int .i64 A1, .int .i64 0, .int .u64 0, .slice none 0 0] 45)
  rw [← hG]
  generalize w6.alloc (.cells #[.int .i64 2, .int .i64 A1, .int .i64 0, .int .u64 0, .slice none 0 0] 45) = W7 at *
  clear hG HD6b
  have hne1 : ¬ (G = w.heap.size) := by omega
  have hne2 : ¬ (w.heap.size = G) := by omega
  have HK7 := Lib.hid hk7
  have HG7 := Lib.hid hg7
  have HH7 := Lib.hid hh7
  clear hk7 hg7 hh7
  have hu := HU.out W7
  generalize unq l3 = U at *
  clear HU
  refine hu.mono ?_
  rintro e w8 ⟨hk, hend⟩
  have HK8 := Lib.hid (HK7.out.trans hk)
  have HG8 := Lib.hid (hk.heap HG7.out (fun h => h))
  have HH8 := Lib.hid (hk.heap HH7.out (fun h => h))
  have hw78 := hk.size
  clear hk hu
  cases U with
  | error n =>
    obtain rfl := hend
    have HRR := Lib.hid (show r = none by have hr := HR.out; rw [if_pos HA.out] at hr; exact hr.symm)
    clear HR
    obtain ⟨y0, y1, y2, y3, y4⟩ := blk5 HG8.out
    have yf := fun i => frozenB HG8.out i
    obtain ⟨z0, z1, z2, z3, z4⟩ := blk5 HH8.out
    have zf := fun i => frozenB HH8.out i
    go_wp2_with fail
    refine bodyPost_ret (v := .tuple #[.agg #[.int .i64 0, .int .i64 0, .int .i64 0, .int .u64 0, .slice none 0 0], .int .i64 251]) (results_cell_tmp (q := 3) (ty := 45) (ad := ⟨w.heap.size, 0, none⟩) rfl _ rfl (by go_simp)) rfl (none_end HRR.out ?_)
    refine Kept.own5 ?_ (Nat.le_refl _) _ _ _ _ _
    refine Kept.own ?_ (Nat.le_of_lt hGH) _ _
    exact HK8.out
  | ok b =>
    obtain ⟨v, rfl, hv⟩ := hend
    obtain ⟨ap, cap, rfl, _⟩ := hv.bytes.parts
    have HRR := Lib.hid (show r = none by have hr := HR.out; rw [if_pos HA.out] at hr; exact hr.symm)
    clear HR
    obtain ⟨y0, y1, y2, y3, y4⟩ := blk5 HG8.out
    have yf := fun i => frozenB HG8.out i
    obtain ⟨z0, z1, z2, z3, z4⟩ := blk5 HH8.out
    have zf := fun i => frozenB HH8.out i
    go_wp2_with fail
    refine bodyPost_ret (v := .tuple #[.agg #[.int .i64 0, .int .i64 0, .int .i64 0, .int .u64 0, .slice none 0 0], .int .i64 251]) (results_cell_tmp (q := 3) (ty := 45) (ad := ⟨w.heap.size, 0, none⟩) rfl _ rfl (by go_simp)) rfl (none_end HRR.out ?_)
    refine Kept.own5 ?_ (Nat.le_refl _) _ _ _ _ _
    refine Kept.own ?_ (Nat.le_of_lt hGH) _ _
    exact HK8.out
end Go.Proofs.YtdinkdmkbfbjbaaGreatDoor
namespace Go.Proofs.YtdinkdmkbfbjbaaGreatDoor
open Go.RowKit
attribute [local go_sem] fold_part fold_some fold_some' partAt_zero

set_option maxRecDepth 100000 in
set_option maxHeartbeats 3200000 in
theorem pparse4t (s : Bs) (hs : s.length ≤ 9000) (w : World) (hV : Vs w) (hM : Mx w) (hk0 : kindV (cutB 32 s).1 = 4) (hA : (parseV (cutB 32 (cutB 32 s).2.1).1).2 = 0) :
    Calls Tryz.prog 10 #[.string ⟨s.toArray⟩] w (ParseEnd (parseP s) w) := by
  have hl1 := cutB_len 32 s
  have hl2 := cutB_len 32 (cutB 32 s).2.1
  have hl3 := cutB_len 32 (cutB 32 (cutB 32 s).2.1).2.1
  have c1 := fun W (hk : Kept NoBlock w W) => pcut s (by omega) 32 W (hM.kept hk)
  have c2 := fun W (hk : Kept NoBlock w W) => pcut (cutB 32 s).2.1 (by omega) 32 W (hM.kept hk)
  have c3 := fun W (hk : Kept NoBlock w W) => pcut (cutB 32 (cutB 32 s).2.1).2.1 (by omega) 32 W (hM.kept hk)
  have cw := fun W (hk : Kept NoBlock w W) => pwhole (cutB 32 (cutB 32 s).2.1).1 (by omega) W (hV.below hk.toB)
  have ck := fun W => pkind (cutB 32 s).1 W
  have cn := fun W (hk : Kept NoBlock w W) => pwhole (cutB 32 (cutB 32 (cutB 32 s).2.1).2.1).1 (by omega) W (hV.below hk.toB)
  have cu := fun W => punq (cutB 32 (cutB 32 s).2.1).2.1 (by omega) W
  have cd3 := fun W (hk : Kept NoBlock w W) => pparseU ⟨(cutB 32 (cutB 32 (cutB 32 s).2.1).2.1).2.1.toArray⟩ (by rw [str_size rfl]; omega) W (hV.below hk.toB)
  have cd2 := fun W (hk : Kept NoBlock w W) => pparseU ⟨(cutB 32 (cutB 32 s).2.1).2.1.toArray⟩ (by rw [str_size rfl]; omega) W (hV.below hk.toB)
  have cl := fun D v W (hf : Deed.Fits D) (hk : Kept NoBlock w W) (h : DeedV W v D) => pline v D W (hV.below hk.toB) h hf
  have hav := parseV_in (cutB 32 (cutB 32 s).2.1).1
  have hnv := parseV_in (cutB 32 (cutB 32 (cutB 32 s).2.1).2.1).1
  have hub : ∀ b, unq (cutB 32 (cutB 32 s).2.1).2.1 = .ok b → b.length ≤ 9000 := fun b hb => by have := unq_blen hb; omega
  generalize hr : parseP s = r
  unfold parseP candP at hr
  rw [hk0] at hr ck
  clear hk0
  generalize (cutB 32 s).1 = l0 at *
  generalize (cutB 32 s).2.2 = b0 at *
  generalize (cutB 32 s).2.1 = l1 at *
  generalize (cutB 32 l1).2.2 = b1 at *
  generalize parseV (cutB 32 l1).1 = A at *
  generalize (cutB 32 l1).1 = l2 at *
  generalize (cutB 32 l1).2.1 = l3 at *
  generalize (cutB 32 l3).2.2 = b2 at *
  generalize parseV (cutB 32 l3).1 = N at *
  generalize (cutB 32 l3).1 = l4 at *
  generalize (cutB 32 l3).2.1 = l5 at *
  obtain ⟨S, hS⟩ : ∃ S : ByteArray, S = ⟨s.toArray⟩ := ⟨_, rfl⟩
  generalize (⟨l0.toArray⟩ : ByteArray) = S0 at *
  generalize (⟨l1.toArray⟩ : ByteArray) = S1 at *
  generalize (⟨l2.toArray⟩ : ByteArray) = S2 at *
  obtain ⟨S3, hS3⟩ : ∃ S : ByteArray, S = ⟨l3.toArray⟩ := ⟨_, rfl⟩
  generalize (⟨l4.toArray⟩ : ByteArray) = S4 at *
  obtain ⟨S5, hS5⟩ : ∃ S : ByteArray, S = ⟨l5.toArray⟩ := ⟨_, rfl⟩
  rw [← hS] at c1 ⊢
  rw [← hS3] at c2 c3 cd2 cu
  rw [← hS5] at c3 cd3
  obtain ⟨A1, A2⟩ := A
  simp only at hA
  subst hA
  have e0 : ((0 : Int) == 0) = true := rfl
  rw [e0] at cw
  clear e0
  obtain ⟨N1, N2⟩ := N
  have H1 := Lib.hid c1
  have H2 := Lib.hid c2
  have H3 := Lib.hid c3
  have HW := Lib.hid cw
  have HKD := Lib.hid ck
  have HN := Lib.hid cn
  have HU := Lib.hid cu
  have HD3 := Lib.hid cd3
  have HD2 := Lib.hid cd2
  have HL := Lib.hid cl
  have HAV := Lib.hid hav
  have HNV := Lib.hid hnv
  have HS := Lib.hid hS
  have HS3 := Lib.hid hS3
  have HS5 := Lib.hid hS5
  have HR := Lib.hid hr
  have HUB := Lib.hid hub
  clear c1 c2 c3 cw ck cn cu cd3 cd2 cl hav hnv hS hS3 hS5 hr hub hl1 hl2 hl3 hV hM hs
  have hk1 : Kept NoBlock w (w.alloc (.cells #[.int .i64 0, .int .i64 0, .int .i64 0, .int .u64 0, .slice none 0 0] 45)) := Kept.allocd _ _
  have hd1 := heap_alloc_new w (.cells #[.int .i64 0, .int .i64 0, .int .i64 0, .int .u64 0, .slice none 0 0] 45)
  have HK1 := Lib.hid hk1
  have HD1 := Lib.hid hd1
  clear hk1 hd1
  go_enter Tryz.func10, Tryz.ntmps10
  go_wp2_with fail
  generalize w.alloc (.cells #[.int .i64 0, .int .i64 0, .int .i64 0, .int .u64 0, .slice none 0 0] 45) = W1 at *
  refine (H1.out _ HK1.out).mono ?_
  rintro e w2 ⟨rfl, hk⟩
  have HK2 := Lib.hid (HK1.out.trans hk)
  have HD2b := Lib.hid (hk.heap HD1.out (fun h => h))
  clear hk HD1
  go_wp2_with fail
  refine (H2.out _ HK2.out).mono ?_
  rintro e w3 ⟨rfl, hk⟩
  have HK3 := Lib.hid (HK2.out.trans hk)
  have HD3b := Lib.hid (hk.heap HD2b.out (fun h => h))
  clear hk HD2b
  go_wp2_with fail
  refine (H3.out _ HK3.out).mono ?_
  rintro e w4 ⟨rfl, hk⟩
  have HK4 := Lib.hid (HK3.out.trans hk)
  have HD4b := Lib.hid (hk.heap HD3b.out (fun h => h))
  clear hk HD3b
  go_wp2_with fail
  refine (HW.out _ HK4.out).mono ?_
  rintro e w5 ⟨rfl, hk⟩
  have HK5 := Lib.hid (HK4.out.trans hk)
  have HD5b := Lib.hid (hk.heap HD4b.out (fun h => h))
  clear hk HD4b
  go_wp2_with fail
  refine (HKD.out _).mono ?_
  rintro e w6 ⟨rfl, hk⟩
  have HK6 := Lib.hid (HK5.out.trans hk)
  have HD6b := Lib.hid (hk.heap HD5b.out (fun h => h))
  clear hk HD5b
  go_wp2_with fail
  obtain ⟨G, hG⟩ : ∃ G, G = w6.heap.size := ⟨_, rfl⟩
  have hGH : w.heap.size < G := by rw [hG]; exact lt_of_heap HD6b.out
  have hg7 : (w6.alloc (.cells #[.int .i64 4, .int .i64 A1, .int .i64 0, .int .u64 0, .slice none 0 0] 45)).heap[G]? = some (.cells #[.int .i64 4, .int .i64 A1, .int .i64 0, .int .u64 0, .slice none 0 0] 45 (0, 0)) := by rw [hG]; exact heap_alloc_new _ _
  have hh7 := (Kept.allocd w6 (.cells #[.int .i64 4, .int .i64 A1, .int .i64 0, .int .u64 0, .slice none 0 0] 45)).heap HD6b.out (fun h => h)
  have hk7 := HK6.out.alloc (.cells #[.int .i64 4, .int .i64 A1, .int .i64 0, .int .u64 0, .slice none 0 0] 45)
  rw [← hG]
  generalize w6.alloc (.cells #[.int .i64 4, .int .i64 A1, .int .i64 0, .int .u64 0, .slice none 0 0] 45) = W7 at *
  clear hG HD6b
  have hne1 : ¬ (G = w.heap.size) := by omega
  have hne2 : ¬ (w.heap.size = G) := by omega
  have HK7 := Lib.hid hk7
  have HG7 := Lib.hid hg7
  have HH7 := Lib.hid hh7
  clear hk7 hg7 hh7
  have hn := HN.out W7 HK7.out
  clear HN
  by_cases hN : N2 = 0
  · subst hN
    have e0 : ((0 : Int) == 0) = true := rfl
    rw [e0] at hn
    clear e0
    refine (hn).mono ?_
    rintro e w8 ⟨rfl, hk⟩
    have HK8 := Lib.hid (HK7.out.trans hk)
    have HG8 := Lib.hid (hk.heap HG7.out (fun h => h))
    have HH8 := Lib.hid (hk.heap HH7.out (fun h => h))
    clear hk
    have HNB := Lib.hid (show ∀ k, vblk (.slice none 0 0) = some k → k ≠ w.heap.size from fun k hk => by cases hk)
    obtain ⟨y0, y1, y2, y3, y4⟩ := blk5 HG8.out
    have yf := fun i => frozenB HG8.out i
    obtain ⟨z0, z1, z2, z3, z4⟩ := blk5 HH8.out
    have zf := fun i => frozenB HH8.out i
    go_wp2_with fail
    clear y0 y1 y2 y3 y4 yf z0 z1 z2 z3 z4 zf
    have hg9 : (w8.setCell ⟨G, 2, none⟩ (.int .i64 N1)).heap[G]? = some (.cells #[.int .i64 4, .int .i64 A1, .int .i64 N1, .int .u64 0, .slice none 0 0] 45 (0, 0)) := by have := (heap_setCell_same HG8.out 2 (.int .i64 N1)); simpa using this
    have hh9 := (heap_set_ne (p := ⟨G, 2, none⟩) (v := .int .i64 N1) HH8.out hne2)
    have hk9 := (HK8.out.own (g := G) (Nat.le_of_lt hGH) 2 (.int .i64 N1))
    have hdv : DeedV (w8.setCell ⟨G, 2, none⟩ (.int .i64 N1)) (.agg #[.int .i64 4, .int .i64 A1, .int .i64 N1, .int .u64 0, .slice none 0 0]) (⟨4, A1, N1, 0, []⟩ : Deed) := ⟨_, rfl, (BytesV.nil _)⟩
    have htb : TypedB (w8.setCell ⟨G, 2, none⟩ (.int .i64 N1)) (.slice none 0 0) := (fun k hk => by cases hk)
    generalize (w8.setCell ⟨G, 2, none⟩ (.int .i64 N1)) = W9 at *
    have HG9 := Lib.hid hg9
    have HH9 := Lib.hid hh9
    have HK9 := Lib.hid hk9
    have hl := HL.out (⟨4, A1, N1, 0, []⟩ : Deed) _ W9 ⟨by simp, HAV.out, HNV.out, by simp, by simp⟩ hk9 hdv
    have HDV := Lib.hid hdv
    have HTB := Lib.hid htb
    clear hg9 hh9 hk9 hdv htb HL
    by_cases hL : lineD (⟨4, A1, N1, 0, []⟩ : Deed) = s
    · have HRR := Lib.hid (show r = some (⟨4, A1, N1, 0, []⟩ : Deed) by have hr := HR.out; simpa [hL] using hr.symm)
      have hLe : (⟨(lineD (⟨4, A1, N1, 0, []⟩ : Deed)).toArray⟩ : ByteArray) = S := by rw [hL, HS.out]
      rw [hLe] at hl
      clear HR hL hLe
      refine hl.mono ?_
      rintro e w10 ⟨rfl, hk10⟩
      have HK10 := Lib.hid hk10
      have HH10 := Lib.hid (hk10.heap HH9.out (fun h => h))
      have HG10 := Lib.hid (hk10.heap HG9.out (fun h => h))
      clear hl hk10
      obtain ⟨y0, y1, y2, y3, y4⟩ := blk5 HG10.out
      have yf := fun i => frozenB HG10.out i
      obtain ⟨z0, z1, z2, z3, z4⟩ := blk5 HH10.out
      have zf := fun i => frozenB HH10.out i
      go_wp2_with fail
      refine bodyPost_ret (v := .tuple #[.agg #[.int .i64 4, .int .i64 A1, .int .i64 N1, .int .u64 0, .slice none 0 0], .int .i64 0]) (results_cell_tmp (q := 3) (ty := 45) (ad := ⟨w.heap.size, 0, none⟩) rfl _ rfl (by go_simp)) rfl (some_end2 (D := (⟨4, A1, N1, 0, []⟩ : Deed)) HRR.out (HDV.out.kept HK10.out) rfl HNB.out (HTB.out.kept HK10.out) (HK9.out.trans HK10.out) _ _ _ _ _)
    · have HRR := Lib.hid (show r = none by have hr := HR.out; simpa [hL] using hr.symm)
      obtain ⟨T, hT⟩ : ∃ T : ByteArray, T = ⟨(lineD (⟨4, A1, N1, 0, []⟩ : Deed)).toArray⟩ := ⟨_, rfl⟩
      have hse : ¬ (T = S) := fun h => hL (by rw [hT, HS.out] at h; simpa using h)
      have hse' : (T.toList == S.toList) = false := by
        rw [beq_eq_false_iff_ne, Go.ByteArray.toList_eq, Go.ByteArray.toList_eq]
        exact fun h => hse (ByteArray.ext (Array.ext' h))
      rw [← hT] at hl
      clear HR hL hT
      refine hl.mono ?_
      rintro e w10 ⟨rfl, hk10⟩
      have HK10 := Lib.hid (HK9.out.trans hk10)
      have HH10 := Lib.hid (hk10.heap HH9.out (fun h => h))
      have HG10 := Lib.hid (hk10.heap HG9.out (fun h => h))
      clear hl hk10
      obtain ⟨y0, y1, y2, y3, y4⟩ := blk5 HG10.out
      have yf := fun i => frozenB HG10.out i
      obtain ⟨z0, z1, z2, z3, z4⟩ := blk5 HH10.out
      have zf := fun i => frozenB HH10.out i
      go_wp2_with fail
      refine bodyPost_ret (v := .tuple #[.agg #[.int .i64 0, .int .i64 0, .int .i64 0, .int .u64 0, .slice none 0 0], .int .i64 251]) (results_cell_tmp (q := 3) (ty := 45) (ad := ⟨w.heap.size, 0, none⟩) rfl _ rfl (by go_simp)) rfl (none_end HRR.out ?_)
      refine Kept.own5 ?_ (Nat.le_refl _) _ _ _ _ _
      exact HK10.out
  · have e0 : (N2 == 0) = false := by simpa using hN
    rw [e0] at hn
    clear e0
    refine (hn).mono ?_
    rintro e w8 ⟨rfl, hk⟩
    have HK8 := Lib.hid (HK7.out.trans hk)
    have HG8 := Lib.hid (hk.heap HG7.out (fun h => h))
    have HH8 := Lib.hid (hk.heap HH7.out (fun h => h))
    clear hk
    have HRR := Lib.hid (show r = none by have hr := HR.out; simpa [hN] using hr.symm)
    clear HR
    obtain ⟨y0, y1, y2, y3, y4⟩ := blk5 HG8.out
    have yf := fun i => frozenB HG8.out i
    obtain ⟨z0, z1, z2, z3, z4⟩ := blk5 HH8.out
    have zf := fun i => frozenB HH8.out i
    go_wp2_with fail
    refine bodyPost_ret (v := .tuple #[.agg #[.int .i64 0, .int .i64 0, .int .i64 0, .int .u64 0, .slice none 0 0], .int .i64 251]) (results_cell_tmp (q := 3) (ty := 45) (ad := ⟨w.heap.size, 0, none⟩) rfl _ rfl (by go_simp)) rfl (none_end HRR.out ?_)
    refine Kept.own5 ?_ (Nat.le_refl _) _ _ _ _ _
    refine Kept.own ?_ (Nat.le_of_lt hGH) _ _
    exact HK8.out
end Go.Proofs.YtdinkdmkbfbjbaaGreatDoor
namespace Go.Proofs.YtdinkdmkbfbjbaaGreatDoor
open Go.RowKit
attribute [local go_sem] fold_part fold_some fold_some' partAt_zero

set_option maxRecDepth 100000 in
set_option maxHeartbeats 3200000 in
theorem pparse4f (s : Bs) (hs : s.length ≤ 9000) (w : World) (hV : Vs w) (hM : Mx w) (hk0 : kindV (cutB 32 s).1 = 4) (hA : (parseV (cutB 32 (cutB 32 s).2.1).1).2 ≠ 0) :
    Calls Tryz.prog 10 #[.string ⟨s.toArray⟩] w (ParseEnd (parseP s) w) := by
  have hl1 := cutB_len 32 s
  have hl2 := cutB_len 32 (cutB 32 s).2.1
  have hl3 := cutB_len 32 (cutB 32 (cutB 32 s).2.1).2.1
  have c1 := fun W (hk : Kept NoBlock w W) => pcut s (by omega) 32 W (hM.kept hk)
  have c2 := fun W (hk : Kept NoBlock w W) => pcut (cutB 32 s).2.1 (by omega) 32 W (hM.kept hk)
  have c3 := fun W (hk : Kept NoBlock w W) => pcut (cutB 32 (cutB 32 s).2.1).2.1 (by omega) 32 W (hM.kept hk)
  have cw := fun W (hk : Kept NoBlock w W) => pwhole (cutB 32 (cutB 32 s).2.1).1 (by omega) W (hV.below hk.toB)
  have ck := fun W => pkind (cutB 32 s).1 W
  have cn := fun W (hk : Kept NoBlock w W) => pwhole (cutB 32 (cutB 32 (cutB 32 s).2.1).2.1).1 (by omega) W (hV.below hk.toB)
  have cu := fun W => punq (cutB 32 (cutB 32 s).2.1).2.1 (by omega) W
  have cd3 := fun W (hk : Kept NoBlock w W) => pparseU ⟨(cutB 32 (cutB 32 (cutB 32 s).2.1).2.1).2.1.toArray⟩ (by rw [str_size rfl]; omega) W (hV.below hk.toB)
  have cd2 := fun W (hk : Kept NoBlock w W) => pparseU ⟨(cutB 32 (cutB 32 s).2.1).2.1.toArray⟩ (by rw [str_size rfl]; omega) W (hV.below hk.toB)
  have cl := fun D v W (hf : Deed.Fits D) (hk : Kept NoBlock w W) (h : DeedV W v D) => pline v D W (hV.below hk.toB) h hf
  have hav := parseV_in (cutB 32 (cutB 32 s).2.1).1
  have hnv := parseV_in (cutB 32 (cutB 32 (cutB 32 s).2.1).2.1).1
  have hub : ∀ b, unq (cutB 32 (cutB 32 s).2.1).2.1 = .ok b → b.length ≤ 9000 := fun b hb => by have := unq_blen hb; omega
  generalize hr : parseP s = r
  unfold parseP candP at hr
  rw [hk0] at hr ck
  clear hk0
  generalize (cutB 32 s).1 = l0 at *
  generalize (cutB 32 s).2.2 = b0 at *
  generalize (cutB 32 s).2.1 = l1 at *
  generalize (cutB 32 l1).2.2 = b1 at *
  generalize parseV (cutB 32 l1).1 = A at *
  generalize (cutB 32 l1).1 = l2 at *
  generalize (cutB 32 l1).2.1 = l3 at *
  generalize (cutB 32 l3).2.2 = b2 at *
  generalize parseV (cutB 32 l3).1 = N at *
  generalize (cutB 32 l3).1 = l4 at *
  generalize (cutB 32 l3).2.1 = l5 at *
  obtain ⟨S, hS⟩ : ∃ S : ByteArray, S = ⟨s.toArray⟩ := ⟨_, rfl⟩
  generalize (⟨l0.toArray⟩ : ByteArray) = S0 at *
  generalize (⟨l1.toArray⟩ : ByteArray) = S1 at *
  generalize (⟨l2.toArray⟩ : ByteArray) = S2 at *
  obtain ⟨S3, hS3⟩ : ∃ S : ByteArray, S = ⟨l3.toArray⟩ := ⟨_, rfl⟩
  generalize (⟨l4.toArray⟩ : ByteArray) = S4 at *
  obtain ⟨S5, hS5⟩ : ∃ S : ByteArray, S = ⟨l5.toArray⟩ := ⟨_, rfl⟩
  rw [← hS] at c1 ⊢
  rw [← hS3] at c2 c3 cd2 cu
  rw [← hS5] at c3 cd3
  obtain ⟨A1, A2⟩ := A
  simp only at hA
  have e0 : (A2 == 0) = false := by simpa using hA
  rw [e0] at cw
  have HA := Lib.hid hA
  clear e0 hA
  obtain ⟨N1, N2⟩ := N
  have H1 := Lib.hid c1
  have H2 := Lib.hid c2
  have H3 := Lib.hid c3
  have HW := Lib.hid cw
  have HKD := Lib.hid ck
  have HN := Lib.hid cn
  have HU := Lib.hid cu
  have HD3 := Lib.hid cd3
  have HD2 := Lib.hid cd2
  have HL := Lib.hid cl
  have HAV := Lib.hid hav
  have HNV := Lib.hid hnv
  have HS := Lib.hid hS
  have HS3 := Lib.hid hS3
  have HS5 := Lib.hid hS5
  have HR := Lib.hid hr
  have HUB := Lib.hid hub
  clear c1 c2 c3 cw ck cn cu cd3 cd2 cl hav hnv hS hS3 hS5 hr hub hl1 hl2 hl3 hV hM hs
  have hk1 : Kept NoBlock w (w.alloc (.cells #[.int .i64 0, .int .i64 0, .int .i64 0, .int .u64 0, .slice none 0 0] 45)) := Kept.allocd _ _
  have hd1 := heap_alloc_new w (.cells #[.int .i64 0, .int .i64 0, .int .i64 0, .int .u64 0, .slice none 0 0] 45)
  have HK1 := Lib.hid hk1
  have HD1 := Lib.hid hd1
  clear hk1 hd1
  go_enter Tryz.func10, Tryz.ntmps10
  go_wp2_with fail
  generalize w.alloc (.cells #[.int .i64 0, .int .i64 0, .int .i64 0, .int .u64 0, .slice none 0 0] 45) = W1 at *
  refine (H1.out _ HK1.out).mono ?_
  rintro e w2 ⟨rfl, hk⟩
  have HK2 := Lib.hid (HK1.out.trans hk)
  have HD2b := Lib.hid (hk.heap HD1.out (fun h => h))
  clear hk HD1
  go_wp2_with fail
  refine (H2.out _ HK2.out).mono ?_
  rintro e w3 ⟨rfl, hk⟩
  have HK3 := Lib.hid (HK2.out.trans hk)
  have HD3b := Lib.hid (hk.heap HD2b.out (fun h => h))
  clear hk HD2b
  go_wp2_with fail
  refine (H3.out _ HK3.out).mono ?_
  rintro e w4 ⟨rfl, hk⟩
  have HK4 := Lib.hid (HK3.out.trans hk)
  have HD4b := Lib.hid (hk.heap HD3b.out (fun h => h))
  clear hk HD3b
  go_wp2_with fail
  refine (HW.out _ HK4.out).mono ?_
  rintro e w5 ⟨rfl, hk⟩
  have HK5 := Lib.hid (HK4.out.trans hk)
  have HD5b := Lib.hid (hk.heap HD4b.out (fun h => h))
  clear hk HD4b
  go_wp2_with fail
  refine (HKD.out _).mono ?_
  rintro e w6 ⟨rfl, hk⟩
  have HK6 := Lib.hid (HK5.out.trans hk)
  have HD6b := Lib.hid (hk.heap HD5b.out (fun h => h))
  clear hk HD5b
  go_wp2_with fail
  obtain ⟨G, hG⟩ : ∃ G, G = w6.heap.size := ⟨_, rfl⟩
  have hGH : w.heap.size < G := by rw [hG]; exact lt_of_heap HD6b.out
  have hg7 : (w6.alloc (.cells #[.int .i64 4, .int .i64 A1, .int .i64 0, .int .u64 0, .slice none 0 0] 45)).heap[G]? = some (.cells #[.int .i64 4, .int .i64 A1, .int .i64 0, .int .u64 0, .slice none 0 0] 45 (0, 0)) := by rw [hG]; exact heap_alloc_new _ _
  have hh7 := (Kept.allocd w6 (.cells #[.int .i64 4, .int .i64 A1, .int .i64 0, .int .u64 0, .slice none 0 0] 45)).heap HD6b.out (fun h => h)
  have hk7 := HK6.out.alloc (.cells #[.int .i64 4, .int .i64 A1, .int .i64 0, .int .u64 0, .slice none 0 0] 45)
  rw [← hG]
  generalize w6.alloc (.cells #[.int .i64 4, .int .i64 A1, .int .i64 0, .int .u64 0, .slice none 0 0] 45) = W7 at *
  clear hG HD6b
  have hne1 : ¬ (G = w.heap.size) := by omega
  have hne2 : ¬ (w.heap.size = G) := by omega
  have HK7 := Lib.hid hk7
  have HG7 := Lib.hid hg7
  have HH7 := Lib.hid hh7
  clear hk7 hg7 hh7
  have hn := HN.out W7 HK7.out
  clear HN
  refine (hn).mono ?_
  rintro e w8 ⟨rfl, hk⟩
  have HK8 := Lib.hid (HK7.out.trans hk)
  have HG8 := Lib.hid (hk.heap HG7.out (fun h => h))
  have HH8 := Lib.hid (hk.heap HH7.out (fun h => h))
  clear hk
  have HRR := Lib.hid (show r = none by have hr := HR.out; rw [if_pos HA.out] at hr; exact hr.symm)
  clear HR
  obtain ⟨y0, y1, y2, y3, y4⟩ := blk5 HG8.out
  have yf := fun i => frozenB HG8.out i
  obtain ⟨z0, z1, z2, z3, z4⟩ := blk5 HH8.out
  have zf := fun i => frozenB HH8.out i
  go_wp2_with fail
  refine bodyPost_ret (v := .tuple #[.agg #[.int .i64 0, .int .i64 0, .int .i64 0, .int .u64 0, .slice none 0 0], .int .i64 251]) (results_cell_tmp (q := 3) (ty := 45) (ad := ⟨w.heap.size, 0, none⟩) rfl _ rfl (by go_simp)) rfl (none_end HRR.out ?_)
  refine Kept.own5 ?_ (Nat.le_refl _) _ _ _ _ _
  refine Kept.own ?_ (Nat.le_of_lt hGH) _ _
  exact HK8.out
end Go.Proofs.YtdinkdmkbfbjbaaGreatDoor
namespace Go.Proofs.YtdinkdmkbfbjbaaGreatDoor
open Go.RowKit
attribute [local go_sem] fold_part fold_some fold_some' partAt_zero

set_option maxRecDepth 100000 in
set_option maxHeartbeats 3200000 in
theorem pparse6t (s : Bs) (hs : s.length ≤ 9000) (w : World) (hV : Vs w) (hM : Mx w) (hk0 : kindV (cutB 32 s).1 = 6) (hA : (parseV (cutB 32 (cutB 32 s).2.1).1).2 = 0) :
    Calls Tryz.prog 10 #[.string ⟨s.toArray⟩] w (ParseEnd (parseP s) w) := by
  have hl1 := cutB_len 32 s
  have hl2 := cutB_len 32 (cutB 32 s).2.1
  have hl3 := cutB_len 32 (cutB 32 (cutB 32 s).2.1).2.1
  have c1 := fun W (hk : Kept NoBlock w W) => pcut s (by omega) 32 W (hM.kept hk)
  have c2 := fun W (hk : Kept NoBlock w W) => pcut (cutB 32 s).2.1 (by omega) 32 W (hM.kept hk)
  have c3 := fun W (hk : Kept NoBlock w W) => pcut (cutB 32 (cutB 32 s).2.1).2.1 (by omega) 32 W (hM.kept hk)
  have cw := fun W (hk : Kept NoBlock w W) => pwhole (cutB 32 (cutB 32 s).2.1).1 (by omega) W (hV.below hk.toB)
  have ck := fun W => pkind (cutB 32 s).1 W
  have cn := fun W (hk : Kept NoBlock w W) => pwhole (cutB 32 (cutB 32 (cutB 32 s).2.1).2.1).1 (by omega) W (hV.below hk.toB)
  have cu := fun W => punq (cutB 32 (cutB 32 s).2.1).2.1 (by omega) W
  have cd3 := fun W (hk : Kept NoBlock w W) => pparseU ⟨(cutB 32 (cutB 32 (cutB 32 s).2.1).2.1).2.1.toArray⟩ (by rw [str_size rfl]; omega) W (hV.below hk.toB)
  have cd2 := fun W (hk : Kept NoBlock w W) => pparseU ⟨(cutB 32 (cutB 32 s).2.1).2.1.toArray⟩ (by rw [str_size rfl]; omega) W (hV.below hk.toB)
  have cl := fun D v W (hf : Deed.Fits D) (hk : Kept NoBlock w W) (h : DeedV W v D) => pline v D W (hV.below hk.toB) h hf
  have hav := parseV_in (cutB 32 (cutB 32 s).2.1).1
  have hnv := parseV_in (cutB 32 (cutB 32 (cutB 32 s).2.1).2.1).1
  have hub : ∀ b, unq (cutB 32 (cutB 32 s).2.1).2.1 = .ok b → b.length ≤ 9000 := fun b hb => by have := unq_blen hb; omega
  generalize hr : parseP s = r
  unfold parseP candP at hr
  rw [hk0] at hr ck
  clear hk0
  generalize (cutB 32 s).1 = l0 at *
  generalize (cutB 32 s).2.2 = b0 at *
  generalize (cutB 32 s).2.1 = l1 at *
  generalize (cutB 32 l1).2.2 = b1 at *
  generalize parseV (cutB 32 l1).1 = A at *
  generalize (cutB 32 l1).1 = l2 at *
  generalize (cutB 32 l1).2.1 = l3 at *
  generalize (cutB 32 l3).2.2 = b2 at *
  generalize parseV (cutB 32 l3).1 = N at *
  generalize (cutB 32 l3).1 = l4 at *
  generalize (cutB 32 l3).2.1 = l5 at *
  obtain ⟨S, hS⟩ : ∃ S : ByteArray, S = ⟨s.toArray⟩ := ⟨_, rfl⟩
  generalize (⟨l0.toArray⟩ : ByteArray) = S0 at *
  generalize (⟨l1.toArray⟩ : ByteArray) = S1 at *
  generalize (⟨l2.toArray⟩ : ByteArray) = S2 at *
  obtain ⟨S3, hS3⟩ : ∃ S : ByteArray, S = ⟨l3.toArray⟩ := ⟨_, rfl⟩
  generalize (⟨l4.toArray⟩ : ByteArray) = S4 at *
  obtain ⟨S5, hS5⟩ : ∃ S : ByteArray, S = ⟨l5.toArray⟩ := ⟨_, rfl⟩
  rw [← hS] at c1 ⊢
  rw [← hS3] at c2 c3 cd2 cu
  rw [← hS5] at c3 cd3
  obtain ⟨A1, A2⟩ := A
  simp only at hA
  subst hA
  have e0 : ((0 : Int) == 0) = true := rfl
  rw [e0] at cw
  clear e0
  obtain ⟨N1, N2⟩ := N
  have H1 := Lib.hid c1
  have H2 := Lib.hid c2
  have H3 := Lib.hid c3
  have HW := Lib.hid cw
  have HKD := Lib.hid ck
  have HN := Lib.hid cn
  have HU := Lib.hid cu
  have HD3 := Lib.hid cd3
  have HD2 := Lib.hid cd2
  have HL := Lib.hid cl
  have HAV := Lib.hid hav
  have HNV := Lib.hid hnv
  have HS := Lib.hid hS
  have HS3 := Lib.hid hS3
  have HS5 := Lib.hid hS5
  have HR := Lib.hid hr
  have HUB := Lib.hid hub
  clear c1 c2 c3 cw ck cn cu cd3 cd2 cl hav hnv hS hS3 hS5 hr hub hl1 hl2 hl3 hV hM hs
  have hk1 : Kept NoBlock w (w.alloc (.cells #[.int .i64 0, .int .i64 0, .int .i64 0, .int .u64 0, .slice none 0 0] 45)) := Kept.allocd _ _
  have hd1 := heap_alloc_new w (.cells #[.int .i64 0, .int .i64 0, .int .i64 0, .int .u64 0, .slice none 0 0] 45)
  have HK1 := Lib.hid hk1
  have HD1 := Lib.hid hd1
  clear hk1 hd1
  go_enter Tryz.func10, Tryz.ntmps10
  go_wp2_with fail
  generalize w.alloc (.cells #[.int .i64 0, .int .i64 0, .int .i64 0, .int .u64 0, .slice none 0 0] 45) = W1 at *
  refine (H1.out _ HK1.out).mono ?_
  rintro e w2 ⟨rfl, hk⟩
  have HK2 := Lib.hid (HK1.out.trans hk)
  have HD2b := Lib.hid (hk.heap HD1.out (fun h => h))
  clear hk HD1
  go_wp2_with fail
  refine (H2.out _ HK2.out).mono ?_
  rintro e w3 ⟨rfl, hk⟩
  have HK3 := Lib.hid (HK2.out.trans hk)
  have HD3b := Lib.hid (hk.heap HD2b.out (fun h => h))
  clear hk HD2b
  go_wp2_with fail
  refine (H3.out _ HK3.out).mono ?_
  rintro e w4 ⟨rfl, hk⟩
  have HK4 := Lib.hid (HK3.out.trans hk)
  have HD4b := Lib.hid (hk.heap HD3b.out (fun h => h))
  clear hk HD3b
  go_wp2_with fail
  refine (HW.out _ HK4.out).mono ?_
  rintro e w5 ⟨rfl, hk⟩
  have HK5 := Lib.hid (HK4.out.trans hk)
  have HD5b := Lib.hid (hk.heap HD4b.out (fun h => h))
  clear hk HD4b
  go_wp2_with fail
  refine (HKD.out _).mono ?_
  rintro e w6 ⟨rfl, hk⟩
  have HK6 := Lib.hid (HK5.out.trans hk)
  have HD6b := Lib.hid (hk.heap HD5b.out (fun h => h))
  clear hk HD5b
  go_wp2_with fail
  obtain ⟨G, hG⟩ : ∃ G, G = w6.heap.size := ⟨_, rfl⟩
  have hGH : w.heap.size < G := by rw [hG]; exact lt_of_heap HD6b.out
  have hg7 : (w6.alloc (.cells #[.int .i64 6, .int .i64 A1, .int .i64 0, .int .u64 0, .slice none 0 0] 45)).heap[G]? = some (.cells #[.int .i64 6, .int .i64 A1, .int .i64 0, .int .u64 0, .slice none 0 0] 45 (0, 0)) := by rw [hG]; exact heap_alloc_new _ _
  have hh7 := (Kept.allocd w6 (.cells #[.int .i64 6, .int .i64 A1, .int .i64 0, .int .u64 0, .slice none 0 0] 45)).heap HD6b.out (fun h => h)
  have hk7 := HK6.out.alloc (.cells #[.int .i64 6, .int .i64 A1, .int .i64 0, .int .u64 0, .slice none 0 0] 45)
  rw [← hG]
  generalize w6.alloc (.cells #[.int .i64 6, .int .i64 A1, .int .i64 0, .int .u64 0, .slice none 0 0] 45) = W7 at *
  clear hG HD6b
  have hne1 : ¬ (G = w.heap.size) := by omega
  have hne2 : ¬ (w.heap.size = G) := by omega
  have HK7 := Lib.hid hk7
  have HG7 := Lib.hid hg7
  have HH7 := Lib.hid hh7
  clear hk7 hg7 hh7
  have hn := HN.out W7 HK7.out
  clear HN
  by_cases hN : N2 = 0
  · subst hN
    have e0 : ((0 : Int) == 0) = true := rfl
    rw [e0] at hn
    clear e0
    refine (hn).mono ?_
    rintro e w8 ⟨rfl, hk⟩
    have HK8 := Lib.hid (HK7.out.trans hk)
    have HG8 := Lib.hid (hk.heap HG7.out (fun h => h))
    have HH8 := Lib.hid (hk.heap HH7.out (fun h => h))
    clear hk
    have HNB := Lib.hid (show ∀ k, vblk (.slice none 0 0) = some k → k ≠ w.heap.size from fun k hk => by cases hk)
    obtain ⟨y0, y1, y2, y3, y4⟩ := blk5 HG8.out
    have yf := fun i => frozenB HG8.out i
    obtain ⟨z0, z1, z2, z3, z4⟩ := blk5 HH8.out
    have zf := fun i => frozenB HH8.out i
    go_wp2_with fail
    clear y0 y1 y2 y3 y4 yf z0 z1 z2 z3 z4 zf
    have hg9 : (w8.setCell ⟨G, 2, none⟩ (.int .i64 N1)).heap[G]? = some (.cells #[.int .i64 6, .int .i64 A1, .int .i64 N1, .int .u64 0, .slice none 0 0] 45 (0, 0)) := by have := (heap_setCell_same HG8.out 2 (.int .i64 N1)); simpa using this
    have hh9 := (heap_set_ne (p := ⟨G, 2, none⟩) (v := .int .i64 N1) HH8.out hne2)
    have hk9 := (HK8.out.own (g := G) (Nat.le_of_lt hGH) 2 (.int .i64 N1))
    have hdv : DeedV (w8.setCell ⟨G, 2, none⟩ (.int .i64 N1)) (.agg #[.int .i64 6, .int .i64 A1, .int .i64 N1, .int .u64 0, .slice none 0 0]) (⟨6, A1, N1, 0, []⟩ : Deed) := ⟨_, rfl, (BytesV.nil _)⟩
    have htb : TypedB (w8.setCell ⟨G, 2, none⟩ (.int .i64 N1)) (.slice none 0 0) := (fun k hk => by cases hk)
    generalize (w8.setCell ⟨G, 2, none⟩ (.int .i64 N1)) = W9 at *
    have HG9 := Lib.hid hg9
    have HH9 := Lib.hid hh9
    have HK9 := Lib.hid hk9
    have hl := HL.out (⟨6, A1, N1, 0, []⟩ : Deed) _ W9 ⟨by simp, HAV.out, HNV.out, by simp, by simp⟩ hk9 hdv
    have HDV := Lib.hid hdv
    have HTB := Lib.hid htb
    clear hg9 hh9 hk9 hdv htb HL
    by_cases hL : lineD (⟨6, A1, N1, 0, []⟩ : Deed) = s
    · have HRR := Lib.hid (show r = some (⟨6, A1, N1, 0, []⟩ : Deed) by have hr := HR.out; simpa [hL] using hr.symm)
      have hLe : (⟨(lineD (⟨6, A1, N1, 0, []⟩ : Deed)).toArray⟩ : ByteArray) = S := by rw [hL, HS.out]
      rw [hLe] at hl
      clear HR hL hLe
      refine hl.mono ?_
      rintro e w10 ⟨rfl, hk10⟩
      have HK10 := Lib.hid hk10
      have HH10 := Lib.hid (hk10.heap HH9.out (fun h => h))
      have HG10 := Lib.hid (hk10.heap HG9.out (fun h => h))
      clear hl hk10
      obtain ⟨y0, y1, y2, y3, y4⟩ := blk5 HG10.out
      have yf := fun i => frozenB HG10.out i
      obtain ⟨z0, z1, z2, z3, z4⟩ := blk5 HH10.out
      have zf := fun i => frozenB HH10.out i
      go_wp2_with fail
      refine bodyPost_ret (v := .tuple #[.agg #[.int .i64 6, .int .i64 A1, .int .i64 N1, .int .u64 0, .slice none 0 0], .int .i64 0]) (results_cell_tmp (q := 3) (ty := 45) (ad := ⟨w.heap.size, 0, none⟩) rfl _ rfl (by go_simp)) rfl (some_end2 (D := (⟨6, A1, N1, 0, []⟩ : Deed)) HRR.out (HDV.out.kept HK10.out) rfl HNB.out (HTB.out.kept HK10.out) (HK9.out.trans HK10.out) _ _ _ _ _)
    · have HRR := Lib.hid (show r = none by have hr := HR.out; simpa [hL] using hr.symm)
      obtain ⟨T, hT⟩ : ∃ T : ByteArray, T = ⟨(lineD (⟨6, A1, N1, 0, []⟩ : Deed)).toArray⟩ := ⟨_, rfl⟩
      have hse : ¬ (T = S) := fun h => hL (by rw [hT, HS.out] at h; simpa using h)
      have hse' : (T.toList == S.toList) = false := by
        rw [beq_eq_false_iff_ne, Go.ByteArray.toList_eq, Go.ByteArray.toList_eq]
        exact fun h => hse (ByteArray.ext (Array.ext' h))
      rw [← hT] at hl
      clear HR hL hT
      refine hl.mono ?_
      rintro e w10 ⟨rfl, hk10⟩
      have HK10 := Lib.hid (HK9.out.trans hk10)
      have HH10 := Lib.hid (hk10.heap HH9.out (fun h => h))
      have HG10 := Lib.hid (hk10.heap HG9.out (fun h => h))
      clear hl hk10
      obtain ⟨y0, y1, y2, y3, y4⟩ := blk5 HG10.out
      have yf := fun i => frozenB HG10.out i
      obtain ⟨z0, z1, z2, z3, z4⟩ := blk5 HH10.out
      have zf := fun i => frozenB HH10.out i
      go_wp2_with fail
      refine bodyPost_ret (v := .tuple #[.agg #[.int .i64 0, .int .i64 0, .int .i64 0, .int .u64 0, .slice none 0 0], .int .i64 251]) (results_cell_tmp (q := 3) (ty := 45) (ad := ⟨w.heap.size, 0, none⟩) rfl _ rfl (by go_simp)) rfl (none_end HRR.out ?_)
      refine Kept.own5 ?_ (Nat.le_refl _) _ _ _ _ _
      exact HK10.out
  · have e0 : (N2 == 0) = false := by simpa using hN
    rw [e0] at hn
    clear e0
    refine (hn).mono ?_
    rintro e w8 ⟨rfl, hk⟩
    have HK8 := Lib.hid (HK7.out.trans hk)
    have HG8 := Lib.hid (hk.heap HG7.out (fun h => h))
    have HH8 := Lib.hid (hk.heap HH7.out (fun h => h))
    clear hk
    have HRR := Lib.hid (show r = none by have hr := HR.out; simpa [hN] using hr.symm)
    clear HR
    obtain ⟨y0, y1, y2, y3, y4⟩ := blk5 HG8.out
    have yf := fun i => frozenB HG8.out i
    obtain ⟨z0, z1, z2, z3, z4⟩ := blk5 HH8.out
    have zf := fun i => frozenB HH8.out i
    go_wp2_with fail
    refine bodyPost_ret (v := .tuple #[.agg #[.int .i64 0, .int .i64 0, .int .i64 0, .int .u64 0, .slice none 0 0], .int .i64 251]) (results_cell_tmp (q := 3) (ty := 45) (ad := ⟨w.heap.size, 0, none⟩) rfl _ rfl (by go_simp)) rfl (none_end HRR.out ?_)
    refine Kept.own5 ?_ (Nat.le_refl _) _ _ _ _ _
    refine Kept.own ?_ (Nat.le_of_lt hGH) _ _
    exact HK8.out
end Go.Proofs.YtdinkdmkbfbjbaaGreatDoor
namespace Go.Proofs.YtdinkdmkbfbjbaaGreatDoor
open Go.RowKit
attribute [local go_sem] fold_part fold_some fold_some' partAt_zero

set_option maxRecDepth 100000 in
set_option maxHeartbeats 3200000 in
theorem pparse6f (s : Bs) (hs : s.length ≤ 9000) (w : World) (hV : Vs w) (hM : Mx w) (hk0 : kindV (cutB 32 s).1 = 6) (hA : (parseV (cutB 32 (cutB 32 s).2.1).1).2 ≠ 0) :
    Calls Tryz.prog 10 #[.string ⟨s.toArray⟩] w (ParseEnd (parseP s) w) := by
  have hl1 := cutB_len 32 s
  have hl2 := cutB_len 32 (cutB 32 s).2.1
  have hl3 := cutB_len 32 (cutB 32 (cutB 32 s).2.1).2.1
  have c1 := fun W (hk : Kept NoBlock w W) => pcut s (by omega) 32 W (hM.kept hk)
  have c2 := fun W (hk : Kept NoBlock w W) => pcut (cutB 32 s).2.1 (by omega) 32 W (hM.kept hk)
  have c3 := fun W (hk : Kept NoBlock w W) => pcut (cutB 32 (cutB 32 s).2.1).2.1 (by omega) 32 W (hM.kept hk)
  have cw := fun W (hk : Kept NoBlock w W) => pwhole (cutB 32 (cutB 32 s).2.1).1 (by omega) W (hV.below hk.toB)
  have ck := fun W => pkind (cutB 32 s).1 W
  have cn := fun W (hk : Kept NoBlock w W) => pwhole (cutB 32 (cutB 32 (cutB 32 s).2.1).2.1).1 (by omega) W (hV.below hk.toB)
  have cu := fun W => punq (cutB 32 (cutB 32 s).2.1).2.1 (by omega) W
  have cd3 := fun W (hk : Kept NoBlock w W) => pparseU ⟨(cutB 32 (cutB 32 (cutB 32 s).2.1).2.1).2.1.toArray⟩ (by rw [str_size rfl]; omega) W (hV.below hk.toB)
  have cd2 := fun W (hk : Kept NoBlock w W) => pparseU ⟨(cutB 32 (cutB 32 s).2.1).2.1.toArray⟩ (by rw [str_size rfl]; omega) W (hV.below hk.toB)
  have cl := fun D v W (hf : Deed.Fits D) (hk : Kept NoBlock w W) (h : DeedV W v D) => pline v D W (hV.below hk.toB) h hf
  have hav := parseV_in (cutB 32 (cutB 32 s).2.1).1
  have hnv := parseV_in (cutB 32 (cutB 32 (cutB 32 s).2.1).2.1).1
  have hub : ∀ b, unq (cutB 32 (cutB 32 s).2.1).2.1 = .ok b → b.length ≤ 9000 := fun b hb => by have := unq_blen hb; omega
  generalize hr : parseP s = r
  unfold parseP candP at hr
  rw [hk0] at hr ck
  clear hk0
  generalize (cutB 32 s).1 = l0 at *
  generalize (cutB 32 s).2.2 = b0 at *
  generalize (cutB 32 s).2.1 = l1 at *
  generalize (cutB 32 l1).2.2 = b1 at *
  generalize parseV (cutB 32 l1).1 = A at *
  generalize (cutB 32 l1).1 = l2 at *
  generalize (cutB 32 l1).2.1 = l3 at *
  generalize (cutB 32 l3).2.2 = b2 at *
  generalize parseV (cutB 32 l3).1 = N at *
  generalize (cutB 32 l3).1 = l4 at *
  generalize (cutB 32 l3).2.1 = l5 at *
  obtain ⟨S, hS⟩ : ∃ S : ByteArray, S = ⟨s.toArray⟩ := ⟨_, rfl⟩
  generalize (⟨l0.toArray⟩ : ByteArray) = S0 at *
  generalize (⟨l1.toArray⟩ : ByteArray) = S1 at *
  generalize (⟨l2.toArray⟩ : ByteArray) = S2 at *
  obtain ⟨S3, hS3⟩ : ∃ S : ByteArray, S = ⟨l3.toArray⟩ := ⟨_, rfl⟩
  generalize (⟨l4.toArray⟩ : ByteArray) = S4 at *
  obtain ⟨S5, hS5⟩ : ∃ S : ByteArray, S = ⟨l5.toArray⟩ := ⟨_, rfl⟩
  rw [← hS] at c1 ⊢
  rw [← hS3] at c2 c3 cd2 cu
  rw [← hS5] at c3 cd3
  obtain ⟨A1, A2⟩ := A
  simp only at hA
  have e0 : (A2 == 0) = false := by simpa using hA
  rw [e0] at cw
  have HA := Lib.hid hA
  clear e0 hA
  obtain ⟨N1, N2⟩ := N
  have H1 := Lib.hid c1
  have H2 := Lib.hid c2
  have H3 := Lib.hid c3
  have HW := Lib.hid cw
  have HKD := Lib.hid ck
  have HN := Lib.hid cn
  have HU := Lib.hid cu
  have HD3 := Lib.hid cd3
  have HD2 := Lib.hid cd2
  have HL := Lib.hid cl
  have HAV := Lib.hid hav
  have HNV := Lib.hid hnv
  have HS := Lib.hid hS
  have HS3 := Lib.hid hS3
  have HS5 := Lib.hid hS5
  have HR := Lib.hid hr
  have HUB := Lib.hid hub
  clear c1 c2 c3 cw ck cn cu cd3 cd2 cl hav hnv hS hS3 hS5 hr hub hl1 hl2 hl3 hV hM hs
  have hk1 : Kept NoBlock w (w.alloc (.cells #[.int .i64 0, .int .i64 0, .int .i64 0, .int .u64 0, .slice none 0 0] 45)) := Kept.allocd _ _
  have hd1 := heap_alloc_new w (.cells #[.int .i64 0, .int .i64 0, .int .i64 0, .int .u64 0, .slice none 0 0] 45)
  have HK1 := Lib.hid hk1
  have HD1 := Lib.hid hd1
  clear hk1 hd1
  go_enter Tryz.func10, Tryz.ntmps10
  go_wp2_with fail
  generalize w.alloc (.cells #[.int .i64 0, .int .i64 0, .int .i64 0, .int .u64 0, .slice none 0 0] 45) = W1 at *
  refine (H1.out _ HK1.out).mono ?_
  rintro e w2 ⟨rfl, hk⟩
  have HK2 := Lib.hid (HK1.out.trans hk)
  have HD2b := Lib.hid (hk.heap HD1.out (fun h => h))
  clear hk HD1
  go_wp2_with fail
  refine (H2.out _ HK2.out).mono ?_
  rintro e w3 ⟨rfl, hk⟩
  have HK3 := Lib.hid (HK2.out.trans hk)
  have HD3b := Lib.hid (hk.heap HD2b.out (fun h => h))
  clear hk HD2b
  go_wp2_with fail
  refine (H3.out _ HK3.out).mono ?_
  rintro e w4 ⟨rfl, hk⟩
  have HK4 := Lib.hid (HK3.out.trans hk)
  have HD4b := Lib.hid (hk.heap HD3b.out (fun h => h))
  clear hk HD3b
  go_wp2_with fail
  refine (HW.out _ HK4.out).mono ?_
  rintro e w5 ⟨rfl, hk⟩
  have HK5 := Lib.hid (HK4.out.trans hk)
  have HD5b := Lib.hid (hk.heap HD4b.out (fun h => h))
  clear hk HD4b
  go_wp2_with fail
  refine (HKD.out _).mono ?_
  rintro e w6 ⟨rfl, hk⟩
  have HK6 := Lib.hid (HK5.out.trans hk)
  have HD6b := Lib.hid (hk.heap HD5b.out (fun h => h))
  clear hk HD5b
  go_wp2_with fail
  obtain ⟨G, hG⟩ : ∃ G, G = w6.heap.size := ⟨_, rfl⟩
  have hGH : w.heap.size < G := by rw [hG]; exact lt_of_heap HD6b.out
  have hg7 : (w6.alloc (.cells #[.int .i64 6, .int .i64 A1, .int .i64 0, .int .u64 0, .slice none 0 0] 45)).heap[G]? = some (.cells #[.int .i64 6, .int .i64 A1, .int .i64 0, .int .u64 0, .slice none 0 0] 45 (0, 0)) := by rw [hG]; exact heap_alloc_new _ _
  have hh7 := (Kept.allocd w6 (.cells #[.int .i64 6, .int .i64 A1, .int .i64 0, .int .u64 0, .slice none 0 0] 45)).heap HD6b.out (fun h => h)
  have hk7 := HK6.out.alloc (.cells #[.int .i64 6, .int .i64 A1, .int .i64 0, .int .u64 0, .slice none 0 0] 45)
  rw [← hG]
  generalize w6.alloc (.cells #[.int .i64 6, .int .i64 A1, .int .i64 0, .int .u64 0, .slice none 0 0] 45) = W7 at *
  clear hG HD6b
  have hne1 : ¬ (G = w.heap.size) := by omega
  have hne2 : ¬ (w.heap.size = G) := by omega
  have HK7 := Lib.hid hk7
  have HG7 := Lib.hid hg7
  have HH7 := Lib.hid hh7
  clear hk7 hg7 hh7
  have hn := HN.out W7 HK7.out
  clear HN
  refine (hn).mono ?_
  rintro e w8 ⟨rfl, hk⟩
  have HK8 := Lib.hid (HK7.out.trans hk)
  have HG8 := Lib.hid (hk.heap HG7.out (fun h => h))
  have HH8 := Lib.hid (hk.heap HH7.out (fun h => h))
  clear hk
  have HRR := Lib.hid (show r = none by have hr := HR.out; rw [if_pos HA.out] at hr; exact hr.symm)
  clear HR
  obtain ⟨y0, y1, y2, y3, y4⟩ := blk5 HG8.out
  have yf := fun i => frozenB HG8.out i
  obtain ⟨z0, z1, z2, z3, z4⟩ := blk5 HH8.out
  have zf := fun i => frozenB HH8.out i
  go_wp2_with fail
  refine bodyPost_ret (v := .tuple #[.agg #[.int .i64 0, .int .i64 0, .int .i64 0, .int .u64 0, .slice none 0 0], .int .i64 251]) (results_cell_tmp (q := 3) (ty := 45) (ad := ⟨w.heap.size, 0, none⟩) rfl _ rfl (by go_simp)) rfl (none_end HRR.out ?_)
  refine Kept.own5 ?_ (Nat.le_refl _) _ _ _ _ _
  refine Kept.own ?_ (Nat.le_of_lt hGH) _ _
  exact HK8.out
end Go.Proofs.YtdinkdmkbfbjbaaGreatDoor
namespace Go.Proofs.YtdinkdmkbfbjbaaGreatDoor
open Go.RowKit
attribute [local go_sem] fold_part fold_some fold_some' partAt_zero

set_option maxRecDepth 100000 in
set_option maxHeartbeats 3200000 in
theorem pparse7t (s : Bs) (hs : s.length ≤ 9000) (w : World) (hV : Vs w) (hM : Mx w) (hk0 : kindV (cutB 32 s).1 = 7) (hA : (parseV (cutB 32 (cutB 32 s).2.1).1).2 = 0) :
    Calls Tryz.prog 10 #[.string ⟨s.toArray⟩] w (ParseEnd (parseP s) w) := by
  have hl1 := cutB_len 32 s
  have hl2 := cutB_len 32 (cutB 32 s).2.1
  have hl3 := cutB_len 32 (cutB 32 (cutB 32 s).2.1).2.1
  have c1 := fun W (hk : Kept NoBlock w W) => pcut s (by omega) 32 W (hM.kept hk)
  have c2 := fun W (hk : Kept NoBlock w W) => pcut (cutB 32 s).2.1 (by omega) 32 W (hM.kept hk)
  have c3 := fun W (hk : Kept NoBlock w W) => pcut (cutB 32 (cutB 32 s).2.1).2.1 (by omega) 32 W (hM.kept hk)
  have cw := fun W (hk : Kept NoBlock w W) => pwhole (cutB 32 (cutB 32 s).2.1).1 (by omega) W (hV.below hk.toB)
  have ck := fun W => pkind (cutB 32 s).1 W
  have cn := fun W (hk : Kept NoBlock w W) => pwhole (cutB 32 (cutB 32 (cutB 32 s).2.1).2.1).1 (by omega) W (hV.below hk.toB)
  have cu := fun W => punq (cutB 32 (cutB 32 s).2.1).2.1 (by omega) W
  have cd3 := fun W (hk : Kept NoBlock w W) => pparseU ⟨(cutB 32 (cutB 32 (cutB 32 s).2.1).2.1).2.1.toArray⟩ (by rw [str_size rfl]; omega) W (hV.below hk.toB)
  have cd2 := fun W (hk : Kept NoBlock w W) => pparseU ⟨(cutB 32 (cutB 32 s).2.1).2.1.toArray⟩ (by rw [str_size rfl]; omega) W (hV.below hk.toB)
  have cl := fun D v W (hf : Deed.Fits D) (hk : Kept NoBlock w W) (h : DeedV W v D) => pline v D W (hV.below hk.toB) h hf
  have hav := parseV_in (cutB 32 (cutB 32 s).2.1).1
  have hnv := parseV_in (cutB 32 (cutB 32 (cutB 32 s).2.1).2.1).1
  have hub : ∀ b, unq (cutB 32 (cutB 32 s).2.1).2.1 = .ok b → b.length ≤ 9000 := fun b hb => by have := unq_blen hb; omega
  generalize hr : parseP s = r
  unfold parseP candP at hr
  rw [hk0] at hr ck
  clear hk0
  generalize (cutB 32 s).1 = l0 at *
  generalize (cutB 32 s).2.2 = b0 at *
  generalize (cutB 32 s).2.1 = l1 at *
  generalize (cutB 32 l1).2.2 = b1 at *
  generalize parseV (cutB 32 l1).1 = A at *
  generalize (cutB 32 l1).1 = l2 at *
  generalize (cutB 32 l1).2.1 = l3 at *
  generalize (cutB 32 l3).2.2 = b2 at *
  generalize parseV (cutB 32 l3).1 = N at *
  generalize (cutB 32 l3).1 = l4 at *
  generalize (cutB 32 l3).2.1 = l5 at *
  obtain ⟨S, hS⟩ : ∃ S : ByteArray, S = ⟨s.toArray⟩ := ⟨_, rfl⟩
  generalize (⟨l0.toArray⟩ : ByteArray) = S0 at *
  generalize (⟨l1.toArray⟩ : ByteArray) = S1 at *
  generalize (⟨l2.toArray⟩ : ByteArray) = S2 at *
  obtain ⟨S3, hS3⟩ : ∃ S : ByteArray, S = ⟨l3.toArray⟩ := ⟨_, rfl⟩
  generalize (⟨l4.toArray⟩ : ByteArray) = S4 at *
  obtain ⟨S5, hS5⟩ : ∃ S : ByteArray, S = ⟨l5.toArray⟩ := ⟨_, rfl⟩
  rw [← hS] at c1 ⊢
  rw [← hS3] at c2 c3 cd2 cu
  rw [← hS5] at c3 cd3
  obtain ⟨A1, A2⟩ := A
  simp only at hA
  subst hA
  have e0 : ((0 : Int) == 0) = true := rfl
  rw [e0] at cw
  clear e0
  obtain ⟨N1, N2⟩ := N
  have H1 := Lib.hid c1
  have H2 := Lib.hid c2
  have H3 := Lib.hid c3
  have HW := Lib.hid cw
  have HKD := Lib.hid ck
  have HN := Lib.hid cn
  have HU := Lib.hid cu
  have HD3 := Lib.hid cd3
  have HD2 := Lib.hid cd2
  have HL := Lib.hid cl
  have HAV := Lib.hid hav
  have HNV := Lib.hid hnv
  have HS := Lib.hid hS
  have HS3 := Lib.hid hS3
  have HS5 := Lib.hid hS5
  have HR := Lib.hid hr
  have HUB := Lib.hid hub
  clear c1 c2 c3 cw ck cn cu cd3 cd2 cl hav hnv hS hS3 hS5 hr hub hl1 hl2 hl3 hV hM hs
  have hk1 : Kept NoBlock w (w.alloc (.cells #[.int .i64 0, .int .i64 0, .int .i64 0, .int .u64 0, .slice none 0 0] 45)) := Kept.allocd _ _
  have hd1 := heap_alloc_new w (.cells #[.int .i64 0, .int .i64 0, .int .i64 0, .int .u64 0, .slice none 0 0] 45)
  have HK1 := Lib.hid hk1
  have HD1 := Lib.hid hd1
  clear hk1 hd1
  go_enter Tryz.func10, Tryz.ntmps10
  go_wp2_with fail
  generalize w.alloc (.cells #[.int .i64 0, .int .i64 0, .int .i64 0, .int .u64 0, .slice none 0 0] 45) = W1 at *
  refine (H1.out _ HK1.out).mono ?_
  rintro e w2 ⟨rfl, hk⟩
  have HK2 := Lib.hid (HK1.out.trans hk)
  have HD2b := Lib.hid (hk.heap HD1.out (fun h => h))
  clear hk HD1
  go_wp2_with fail
  refine (H2.out _ HK2.out).mono ?_
  rintro e w3 ⟨rfl, hk⟩
  have HK3 := Lib.hid (HK2.out.trans hk)
  have HD3b := Lib.hid (hk.heap HD2b.out (fun h => h))
  clear hk HD2b
  go_wp2_with fail
  refine (H3.out _ HK3.out).mono ?_
  rintro e w4 ⟨rfl, hk⟩
  have HK4 := Lib.hid (HK3.out.trans hk)
  have HD4b := Lib.hid (hk.heap HD3b.out (fun h => h))
  clear hk HD3b
  go_wp2_with fail
  refine (HW.out _ HK4.out).mono ?_
  rintro e w5 ⟨rfl, hk⟩
  have HK5 := Lib.hid (HK4.out.trans hk)
  have HD5b := Lib.hid (hk.heap HD4b.out (fun h => h))
  clear hk HD4b
  go_wp2_with fail
  refine (HKD.out _).mono ?_
  rintro e w6 ⟨rfl, hk⟩
  have HK6 := Lib.hid (HK5.out.trans hk)
  have HD6b := Lib.hid (hk.heap HD5b.out (fun h => h))
  clear hk HD5b
  go_wp2_with fail
  obtain ⟨G, hG⟩ : ∃ G, G = w6.heap.size := ⟨_, rfl⟩
  have hGH : w.heap.size < G := by rw [hG]; exact lt_of_heap HD6b.out
  have hg7 : (w6.alloc (.cells #[.int .i64 7, .int .i64 A1, .int .i64 0, .int .u64 0, .slice none 0 0] 45)).heap[G]? = some (.cells #[.int .i64 7, .int .i64 A1, .int .i64 0, .int .u64 0, .slice none 0 0] 45 (0, 0)) := by rw [hG]; exact heap_alloc_new _ _
  have hh7 := (Kept.allocd w6 (.cells #[.int .i64 7, .int .i64 A1, .int .i64 0, .int .u64 0, .slice none 0 0] 45)).heap HD6b.out (fun h => h)
  have hk7 := HK6.out.alloc (.cells #[.int .i64 7, .int .i64 A1, .int .i64 0, .int .u64 0, .slice none 0 0] 45)
  rw [← hG]
  generalize w6.alloc (.cells #[.int .i64 7, .int .i64 A1, .int .i64 0, .int .u64 0, .slice none 0 0] 45) = W7 at *
  clear hG HD6b
  have hne1 : ¬ (G = w.heap.size) := by omega
  have hne2 : ¬ (w.heap.size = G) := by omega
  have HK7 := Lib.hid hk7
  have HG7 := Lib.hid hg7
  have HH7 := Lib.hid hh7
  clear hk7 hg7 hh7
  have hd := HD2.out W7 HK7.out
  clear HD2 HD3 HU
  refine hd.mono ?_
  rintro e w8 ⟨u, ev, rfl, hb, hu, hev⟩
  have hk := Kept.ofB hb
  clear hb hd
  have HK8d := Lib.hid (HK7.out.trans hk)
  have HG8d := Lib.hid (hk.heap HG7.out (fun h => h))
  have HH8d := Lib.hid (hk.heap HH7.out (fun h => h))
  have HU := Lib.hid hu
  clear hk hu
  obtain ⟨y0, y1, y2, y3, y4⟩ := blk5 HG8d.out
  have yf := fun i => frozenB HG8d.out i
  obtain ⟨z0, z1, z2, z3, z4⟩ := blk5 HH8d.out
  have zf := fun i => frozenB HH8d.out i
  rcases hev with ⟨rfl, hok⟩ | ⟨⟨tt, pp, rfl⟩, hno⟩
  · have hdv : drawV l3 = some u := by unfold drawV; rw [← show (⟨l3.toArray⟩ : ByteArray).data.toList = l3 from rfl, ← HS3.out, hok]
    have HDR := Lib.hid hdv
    clear hok hdv
    go_wp2_with fail
    refine wp_planC (fun _ => True) 9 [.flt 1, .flt 2, .flt 3, .flt 4, .flt 5, .seg [0, 6] 7] [8] (by kernel_rfl) (by kernel_rfl) (fun _ _ _ dst _ h => by cases dst <;> exact h) (fun _ _ h => h) trivial (fun n0 => ?_)
    simp only [wpPlanC, pick, List.filterMap_cons, List.filterMap_nil, List.getElem?_cons_succ, List.getElem?_cons_zero]
    iterate 2 (refine wpFloat_ex rfl ?_; apply Exists.intro; refine ⟨fun w' hw' => ?_, ?_⟩; (go_simp; first | rfl | exact ⟨rfl, rfl⟩); simp only [Act.put, List.setIfInBounds_toArray, List.set_cons_succ, List.set_cons_zero])
    refine ⟨.nilIface, fun _ w' hw' => ?_, fun h => ?_, ?_⟩
    · go_simp; first | rfl | exact ⟨rfl, rfl⟩
    · simp [Region.wanted, yielded] at h
    simp only [Act.put, List.setIfInBounds_toArray, List.set_cons_succ, List.set_cons_zero]
    refine ⟨.bool true, fun _ w' hw' => ?_, fun h => ?_, ?_⟩
    · go_simp; first | rfl | exact ⟨rfl, rfl⟩
    · simp [Region.wanted, yielded] at h
    simp only [Act.put, List.setIfInBounds_toArray, List.set_cons_succ, List.set_cons_zero]
    refine wpFloat_ex rfl ?_; apply Exists.intro; refine ⟨fun w' hw' => ?_, ?_⟩; (go_simp; first | rfl | exact ⟨rfl, rfl⟩); simp only [Act.put, List.setIfInBounds_toArray, List.set_cons_succ, List.set_cons_zero]
    repeat (quiet_step (fail))
    refine wpQuiet_nil ?_
    rintro _ ⟨n1, rfl⟩
    go_wp2_with fail
    refine Halt.mk ⟨.inr trivial, ?_⟩
    repeat (quiet_step (fail))
    refine wpQuiet_nil ?_
    rintro _ ⟨n2, rfl⟩
    have hg9 : (((w8.drewN (n0 + n1)).setCell ⟨G, 3, none⟩ (.int .u64 (u : Nat))).drewN n2).heap[G]? = some (.cells #[.int .i64 7, .int .i64 A1, .int .i64 0, .int .u64 (u : Nat), .slice none 0 0] 45 (0, 0)) := by have := (heap_setCell_same (w := w8.drewN (n0 + n1)) HG8d.out 3 (.int .u64 (u : Nat))); simpa using this
    have hh9 : (((w8.drewN (n0 + n1)).setCell ⟨G, 3, none⟩ (.int .u64 (u : Nat))).drewN n2).heap[w.heap.size]? = some (.cells #[.int .i64 0, .int .i64 0, .int .i64 0, .int .u64 0, .slice none 0 0] 45 (0, 0)) := (heap_set_ne (w := w8.drewN (n0 + n1)) (p := ⟨G, 3, none⟩) (v := .int .u64 (u : Nat)) HH8d.out hne2)
    have hk9 := ((HK8d.out.drewN (n0 + n1)).own (g := G) (Nat.le_of_lt hGH) 3 (.int .u64 (u : Nat))).drewN n2
    clear y0 y1 y2 y3 y4 yf z0 z1 z2 z3 z4 zf
    generalize ((w8.drewN (n0 + n1)).setCell ⟨G, 3, none⟩ (.int .u64 (u : Nat))).drewN n2 = W9 at *
    have HG9 := Lib.hid hg9
    have HH9 := Lib.hid hh9
    have HK9 := Lib.hid hk9
    clear hg9 hh9 hk9
    have HNB := Lib.hid (show ∀ k, vblk (.slice none 0 0) = some k → k ≠ w.heap.size from fun k hk => by cases hk)
    obtain ⟨y0, y1, y2, y3, y4⟩ := blk5 HG9.out
    have yf := fun i => frozenB HG9.out i
    obtain ⟨z0, z1, z2, z3, z4⟩ := blk5 HH9.out
    have zf := fun i => frozenB HH9.out i
    go_wp2_with fail
    clear y0 y1 y2 y3 y4 yf z0 z1 z2 z3 z4 zf
    have hg9 : W9.heap[G]? = some (.cells #[.int .i64 7, .int .i64 A1, .int .i64 0, .int .u64 (u : Nat), .slice none 0 0] 45 (0, 0)) := by have := HG9.out; simpa using this
    have hh9 := HH9.out
    have hk9 := HK9.out
    have hdv : DeedV W9 (.agg #[.int .i64 7, .int .i64 A1, .int .i64 0, .int .u64 (u : Nat), .slice none 0 0]) (⟨7, A1, 0, u, []⟩ : Deed) := ⟨_, rfl, (BytesV.nil _)⟩
    have htb : TypedB W9 (.slice none 0 0) := (fun k hk => by cases hk)
    have HG9 := Lib.hid hg9
    have HH9 := Lib.hid hh9
    have HK9 := Lib.hid hk9
    have hl := HL.out (⟨7, A1, 0, u, []⟩ : Deed) _ W9 ⟨by simp, HAV.out, by simp, HU.out, by simp⟩ hk9 hdv
    have HDV := Lib.hid hdv
    have HTB := Lib.hid htb
    clear hg9 hh9 hk9 hdv htb HL
    by_cases hL : lineD (⟨7, A1, 0, u, []⟩ : Deed) = s
    · have HRR := Lib.hid (show r = some (⟨7, A1, 0, u, []⟩ : Deed) by have hr := HR.out; simpa [HDR.out, hL] using hr.symm)
      have hLe : (⟨(lineD (⟨7, A1, 0, u, []⟩ : Deed)).toArray⟩ : ByteArray) = S := by rw [hL, HS.out]
      rw [hLe] at hl
      clear HR hL hLe
      refine hl.mono ?_
      rintro e w10 ⟨rfl, hk10⟩
      have HK10 := Lib.hid hk10
      have HH10 := Lib.hid (hk10.heap HH9.out (fun h => h))
      have HG10 := Lib.hid (hk10.heap HG9.out (fun h => h))
      clear hl hk10
      obtain ⟨y0, y1, y2, y3, y4⟩ := blk5 HG10.out
      have yf := fun i => frozenB HG10.out i
      obtain ⟨z0, z1, z2, z3, z4⟩ := blk5 HH10.out
      have zf := fun i => frozenB HH10.out i
      go_wp2_with fail
      refine bodyPost_ret (v := .tuple #[.agg #[.int .i64 7, .int .i64 A1, .int .i64 0, .int .u64 (u : Nat), .slice none 0 0], .int .i64 0]) (results_cell_tmp (q := 3) (ty := 45) (ad := ⟨w.heap.size, 0, none⟩) rfl _ rfl (by go_simp)) rfl (some_end2 (D := (⟨7, A1, 0, u, []⟩ : Deed)) HRR.out (HDV.out.kept HK10.out) rfl HNB.out (HTB.out.kept HK10.out) (HK9.out.trans HK10.out) _ _ _ _ _)
    · have HRR := Lib.hid (show r = none by have hr := HR.out; simpa [HDR.out, hL] using hr.symm)
      obtain ⟨T, hT⟩ : ∃ T : ByteArray, T = ⟨(lineD (⟨7, A1, 0, u, []⟩ : Deed)).toArray⟩ := ⟨_, rfl⟩
      have hse : ¬ (T = S) := fun h => hL (by rw [hT, HS.out] at h; simpa using h)
      have hse' : (T.toList == S.toList) = false := by
        rw [beq_eq_false_iff_ne, Go.ByteArray.toList_eq, Go.ByteArray.toList_eq]
        exact fun h => hse (ByteArray.ext (Array.ext' h))
      rw [← hT] at hl
      clear HR hL hT
      refine hl.mono ?_
      rintro e w10 ⟨rfl, hk10⟩
      have HK10 := Lib.hid (HK9.out.trans hk10)
      have HH10 := Lib.hid (hk10.heap HH9.out (fun h => h))
      have HG10 := Lib.hid (hk10.heap HG9.out (fun h => h))
      clear hl hk10
      obtain ⟨y0, y1, y2, y3, y4⟩ := blk5 HG10.out
      have yf := fun i => frozenB HG10.out i
      obtain ⟨z0, z1, z2, z3, z4⟩ := blk5 HH10.out
      have zf := fun i => frozenB HH10.out i
      go_wp2_with fail
      refine bodyPost_ret (v := .tuple #[.agg #[.int .i64 0, .int .i64 0, .int .i64 0, .int .u64 0, .slice none 0 0], .int .i64 251]) (results_cell_tmp (q := 3) (ty := 45) (ad := ⟨w.heap.size, 0, none⟩) rfl _ rfl (by go_simp)) rfl (none_end HRR.out ?_)
      refine Kept.own5 ?_ (Nat.le_refl _) _ _ _ _ _
      exact HK10.out
  · have hdv : drawV l3 = none := by
      unfold drawV
      rw [← show (⟨l3.toArray⟩ : ByteArray).data.toList = l3 from rfl, ← HS3.out]
      split
      · rename_i v hv; exact absurd hv (hno v)
      · rfl
    have HDR := Lib.hid hdv
    clear hno hdv
    go_wp2_with fail
    refine wp_planC (fun _ => True) 9 [.flt 1, .flt 2, .flt 3, .flt 4, .flt 5, .seg [0, 6] 7] [8] (by kernel_rfl) (by kernel_rfl) (fun _ _ _ dst _ h => by cases dst <;> exact h) (fun _ _ h => h) trivial (fun n0 => ?_)
    simp only [wpPlanC, pick, List.filterMap_cons, List.filterMap_nil, List.getElem?_cons_succ, List.getElem?_cons_zero]
    iterate 2 (refine wpFloat_ex rfl ?_; apply Exists.intro; refine ⟨fun w' hw' => ?_, ?_⟩; (go_simp; first | rfl | exact ⟨rfl, rfl⟩); simp only [Act.put, List.setIfInBounds_toArray, List.set_cons_succ, List.set_cons_zero])
    refine ⟨.iface tt pp, fun _ w' hw' => ?_, fun h => ?_, ?_⟩
    · go_simp; first | rfl | exact ⟨rfl, rfl⟩
    · simp [Region.wanted, yielded] at h
    simp only [Act.put, List.setIfInBounds_toArray, List.set_cons_succ, List.set_cons_zero]
    refine ⟨.bool false, fun _ w' hw' => ?_, fun h => ?_, ?_⟩
    · go_simp; first | rfl | exact ⟨rfl, rfl⟩
    · simp [Region.wanted, yielded] at h
    simp only [Act.put, List.setIfInBounds_toArray, List.set_cons_succ, List.set_cons_zero]
    refine wpFloat_ex rfl ?_; apply Exists.intro; refine ⟨fun w' hw' => ?_, ?_⟩; (go_simp; first | rfl | exact ⟨rfl, rfl⟩); simp only [Act.put, List.setIfInBounds_toArray, List.set_cons_succ, List.set_cons_zero]
    repeat (quiet_step (fail))
    refine wpQuiet_nil ?_
    rintro _ ⟨n1, rfl⟩
    go_wp2_with fail
    refine Halt.mk ⟨.inr trivial, ?_⟩
    repeat (quiet_step (fail))
    refine wpQuiet_nil ?_
    rintro _ ⟨n2, rfl⟩
    have hg9 : (((w8.drewN (n0 + n1)).setCell ⟨G, 3, none⟩ (.int .u64 (u : Nat))).drewN n2).heap[G]? = some (.cells #[.int .i64 7, .int .i64 A1, .int .i64 0, .int .u64 (u : Nat), .slice none 0 0] 45 (0, 0)) := by have := (heap_setCell_same (w := w8.drewN (n0 + n1)) HG8d.out 3 (.int .u64 (u : Nat))); simpa using this
    have hh9 : (((w8.drewN (n0 + n1)).setCell ⟨G, 3, none⟩ (.int .u64 (u : Nat))).drewN n2).heap[w.heap.size]? = some (.cells #[.int .i64 0, .int .i64 0, .int .i64 0, .int .u64 0, .slice none 0 0] 45 (0, 0)) := (heap_set_ne (w := w8.drewN (n0 + n1)) (p := ⟨G, 3, none⟩) (v := .int .u64 (u : Nat)) HH8d.out hne2)
    have hk9 := ((HK8d.out.drewN (n0 + n1)).own (g := G) (Nat.le_of_lt hGH) 3 (.int .u64 (u : Nat))).drewN n2
    clear y0 y1 y2 y3 y4 yf z0 z1 z2 z3 z4 zf
    generalize ((w8.drewN (n0 + n1)).setCell ⟨G, 3, none⟩ (.int .u64 (u : Nat))).drewN n2 = W9 at *
    have HG9 := Lib.hid hg9
    have HH9 := Lib.hid hh9
    have HK9 := Lib.hid hk9
    clear hg9 hh9 hk9
    have HRR := Lib.hid (show r = none by have hr := HR.out; simpa [HDR.out] using hr.symm)
    clear HR
    obtain ⟨y0, y1, y2, y3, y4⟩ := blk5 HG9.out
    have yf := fun i => frozenB HG9.out i
    obtain ⟨z0, z1, z2, z3, z4⟩ := blk5 HH9.out
    have zf := fun i => frozenB HH9.out i
    go_wp2_with fail
    refine bodyPost_ret (v := .tuple #[.agg #[.int .i64 0, .int .i64 0, .int .i64 0, .int .u64 0, .slice none 0 0], .int .i64 251]) (results_cell_tmp (q := 3) (ty := 45) (ad := ⟨w.heap.size, 0, none⟩) rfl _ rfl (by go_simp)) rfl (none_end HRR.out ?_)
    refine Kept.own5 ?_ (Nat.le_refl _) _ _ _ _ _
    exact HK9.out
end Go.Proofs.YtdinkdmkbfbjbaaGreatDoor
namespace Go.Proofs.YtdinkdmkbfbjbaaGreatDoor
open Go.RowKit
attribute [local go_sem] fold_part fold_some fold_some' partAt_zero

set_option maxRecDepth 100000 in
set_option maxHeartbeats 3200000 in
theorem pparse7f (s : Bs) (hs : s.length ≤ 9000) (w : World) (hV : Vs w) (hM : Mx w) (hk0 : kindV (cutB 32 s).1 = 7) (hA : (parseV (cutB 32 (cutB 32 s).2.1).1).2 ≠ 0) :
    Calls Tryz.prog 10 #[.string ⟨s.toArray⟩] w (ParseEnd (parseP s) w) := by
  have hl1 := cutB_len 32 s
  have hl2 := cutB_len 32 (cutB 32 s).2.1
  have hl3 := cutB_len 32 (cutB 32 (cutB 32 s).2.1).2.1
  have c1 := fun W (hk : Kept NoBlock w W) => pcut s (by omega) 32 W (hM.kept hk)
  have c2 := fun W (hk : Kept NoBlock w W) => pcut (cutB 32 s).2.1 (by omega) 32 W (hM.kept hk)
  have c3 := fun W (hk : Kept NoBlock w W) => pcut (cutB 32 (cutB 32 s).2.1).2.1 (by omega) 32 W (hM.kept hk)
  have cw := fun W (hk : Kept NoBlock w W) => pwhole (cutB 32 (cutB 32 s).2.1).1 (by omega) W (hV.below hk.toB)
  have ck := fun W => pkind (cutB 32 s).1 W
  have cn := fun W (hk : Kept NoBlock w W) => pwhole (cutB 32 (cutB 32 (cutB 32 s).2.1).2.1).1 (by omega) W (hV.below hk.toB)
  have cu := fun W => punq (cutB 32 (cutB 32 s).2.1).2.1 (by omega) W
  have cd3 := fun W (hk : Kept NoBlock w W) => pparseU ⟨(cutB 32 (cutB 32 (cutB 32 s).2.1).2.1).2.1.toArray⟩ (by rw [str_size rfl]; omega) W (hV.below hk.toB)
  have cd2 := fun W (hk : Kept NoBlock w W) => pparseU ⟨(cutB 32 (cutB 32 s).2.1).2.1.toArray⟩ (by rw [str_size rfl]; omega) W (hV.below hk.toB)
  have cl := fun D v W (hf : Deed.Fits D) (hk : Kept NoBlock w W) (h : DeedV W v D) => pline v D W (hV.below hk.toB) h hf
  have hav := parseV_in (cutB 32 (cutB 32 s).2.1).1
  have hnv := parseV_in (cutB 32 (cutB 32 (cutB 32 s).2.1).2.1).1
  have hub : ∀ b, unq (cutB 32 (cutB 32 s).2.1).2.1 = .ok b → b.length ≤ 9000 := fun b hb => by have := unq_blen hb; omega
  generalize hr : parseP s = r
  unfold parseP candP at hr
  rw [hk0] at hr ck
  clear hk0
  generalize (cutB 32 s).1 = l0 at *
  generalize (cutB 32 s).2.2 = b0 at *
  generalize (cutB 32 s).2.1 = l1 at *
  generalize (cutB 32 l1).2.2 = b1 at *
  generalize parseV (cutB 32 l1).1 = A at *
  generalize (cutB 32 l1).1 = l2 at *
  generalize (cutB 32 l1).2.1 = l3 at *
  generalize (cutB 32 l3).2.2 = b2 at *
  generalize parseV (cutB 32 l3).1 = N at *
  generalize (cutB 32 l3).1 = l4 at *
  generalize (cutB 32 l3).2.1 = l5 at *
  obtain ⟨S, hS⟩ : ∃ S : ByteArray, S = ⟨s.toArray⟩ := ⟨_, rfl⟩
  generalize (⟨l0.toArray⟩ : ByteArray) = S0 at *
  generalize (⟨l1.toArray⟩ : ByteArray) = S1 at *
  generalize (⟨l2.toArray⟩ : ByteArray) = S2 at *
  obtain ⟨S3, hS3⟩ : ∃ S : ByteArray, S = ⟨l3.toArray⟩ := ⟨_, rfl⟩
  generalize (⟨l4.toArray⟩ : ByteArray) = S4 at *
  obtain ⟨S5, hS5⟩ : ∃ S : ByteArray, S = ⟨l5.toArray⟩ := ⟨_, rfl⟩
  rw [← hS] at c1 ⊢
  rw [← hS3] at c2 c3 cd2 cu
  rw [← hS5] at c3 cd3
  obtain ⟨A1, A2⟩ := A
  simp only at hA
  have e0 : (A2 == 0) = false := by simpa using hA
  rw [e0] at cw
  have HA := Lib.hid hA
  clear e0 hA
  obtain ⟨N1, N2⟩ := N
  have H1 := Lib.hid c1
  have H2 := Lib.hid c2
  have H3 := Lib.hid c3
  have HW := Lib.hid cw
  have HKD := Lib.hid ck
  have HN := Lib.hid cn
  have HU := Lib.hid cu
  have HD3 := Lib.hid cd3
  have HD2 := Lib.hid cd2
  have HL := Lib.hid cl
  have HAV := Lib.hid hav
  have HNV := Lib.hid hnv
  have HS := Lib.hid hS
  have HS3 := Lib.hid hS3
  have HS5 := Lib.hid hS5
  have HR := Lib.hid hr
  have HUB := Lib.hid hub
  clear c1 c2 c3 cw ck cn cu cd3 cd2 cl hav hnv hS hS3 hS5 hr hub hl1 hl2 hl3 hV hM hs
  have hk1 : Kept NoBlock w (w.alloc (.cells #[.int .i64 0, .int .i64 0, .int .i64 0, .int .u64 0, .slice none 0 0] 45)) := Kept.allocd _ _
  have hd1 := heap_alloc_new w (.cells #[.int .i64 0, .int .i64 0, .int .i64 0, .int .u64 0, .slice none 0 0] 45)
  have HK1 := Lib.hid hk1
  have HD1 := Lib.hid hd1
  clear hk1 hd1
  go_enter Tryz.func10, Tryz.ntmps10
  go_wp2_with fail
  generalize w.alloc (.cells #[.int .i64 0, .int .i64 0, .int .i64 0, .int .u64 0, .slice none 0 0] 45) = W1 at *
  refine (H1.out _ HK1.out).mono ?_
  rintro e w2 ⟨rfl, hk⟩
  have HK2 := Lib.hid (HK1.out.trans hk)
  have HD2b := Lib.hid (hk.heap HD1.out (fun h => h))
  clear hk HD1
  go_wp2_with fail
  refine (H2.out _ HK2.out).mono ?_
  rintro e w3 ⟨rfl, hk⟩
  have HK3 := Lib.hid (HK2.out.trans hk)
  have HD3b := Lib.hid (hk.heap HD2b.out (fun h => h))
  clear hk HD2b
  go_wp2_with fail
  refine (H3.out _ HK3.out).mono ?_
  rintro e w4 ⟨rfl, hk⟩
  have HK4 := Lib.hid (HK3.out.trans hk)
  have HD4b := Lib.hid (hk.heap HD3b.out (fun h => h))
  clear hk HD3b
  go_wp2_with fail
  refine (HW.out _ HK4.out).mono ?_
  rintro e w5 ⟨rfl, hk⟩
  have HK5 := Lib.hid (HK4.out.trans hk)
  have HD5b := Lib.hid (hk.heap HD4b.out (fun h => h))
  clear hk HD4b
  go_wp2_with fail
  refine (HKD.out _).mono ?_
  rintro e w6 ⟨rfl, hk⟩
  have HK6 := Lib.hid (HK5.out.trans hk)
  have HD6b := Lib.hid (hk.heap HD5b.out (fun h => h))
  clear hk HD5b
  go_wp2_with fail
  obtain ⟨G, hG⟩ : ∃ G, G = w6.heap.size := ⟨_, rfl⟩
  have hGH : w.heap.size < G := by rw [hG]; exact lt_of_heap HD6b.out
  have hg7 : (w6.alloc (.cells #[.int .i64 7, .int .i64 A1, .int .i64 0, .int .u64 0, .slice none 0 0] 45)).heap[G]? = some (.cells #[.int .i64 7, .int .i64 A1, .int .i64 0, .int .u64 0, .slice none 0 0] 45 (0, 0)) := by rw [hG]; exact heap_alloc_new _ _
  have hh7 := (Kept.allocd w6 (.cells #[.int .i64 7, .int .i64 A1, .int .i64 0, .int .u64 0, .slice none 0 0] 45)).heap HD6b.out (fun h => h)
  have hk7 := HK6.out.alloc (.cells #[.int .i64 7, .int .i64 A1, .int .i64 0, .int .u64 0, .slice none 0 0] 45)
  rw [← hG]
  generalize w6.alloc (.cells #[.int .i64 7, .int .i64 A1, .int .i64 0, .int .u64 0, .slice none 0 0] 45) = W7 at *
  clear hG HD6b
  have hne1 : ¬ (G = w.heap.size) := by omega
  have hne2 : ¬ (w.heap.size = G) := by omega
  have HK7 := Lib.hid hk7
  have HG7 := Lib.hid hg7
  have HH7 := Lib.hid hh7
  clear hk7 hg7 hh7
  have hd := HD2.out W7 HK7.out
  clear HD2 HD3 HU
  refine hd.mono ?_
  rintro e w8 ⟨u, ev, rfl, hb, hu, hev⟩
  have hk := Kept.ofB hb
  clear hb hd
  have HK8d := Lib.hid (HK7.out.trans hk)
  have HG8d := Lib.hid (hk.heap HG7.out (fun h => h))
  have HH8d := Lib.hid (hk.heap HH7.out (fun h => h))
  have HU := Lib.hid hu
  clear hk hu
  obtain ⟨y0, y1, y2, y3, y4⟩ := blk5 HG8d.out
  have yf := fun i => frozenB HG8d.out i
  obtain ⟨z0, z1, z2, z3, z4⟩ := blk5 HH8d.out
  have zf := fun i => frozenB HH8d.out i
  have HEV := Lib.hid hev
  clear hev
  go_wp2_with fail
  refine wp_planC (fun _ => True) 9 [.flt 1, .flt 2, .flt 3, .flt 4, .flt 5, .seg [0, 6] 7] [8] (by kernel_rfl) (by kernel_rfl) (fun _ _ _ dst _ h => by cases dst <;> exact h) (fun _ _ h => h) trivial (fun n0 => ?_)
  simp only [wpPlanC, pick, List.filterMap_cons, List.filterMap_nil, List.getElem?_cons_succ, List.getElem?_cons_zero]
  iterate 2 (refine wpFloat_ex rfl ?_; apply Exists.intro; refine ⟨fun w' hw' => ?_, ?_⟩; (go_simp; first | rfl | exact ⟨rfl, rfl⟩); simp only [Act.put, List.setIfInBounds_toArray, List.set_cons_succ, List.set_cons_zero])
  refine ⟨undef, fun h => ?_, fun _ => rfl, ?_⟩
  · simp [Region.wanted, yielded] at h
  simp only [Act.put, List.setIfInBounds_toArray, List.set_cons_succ, List.set_cons_zero]
  refine ⟨undef, fun h => ?_, fun _ => rfl, ?_⟩
  · simp [Region.wanted, yielded] at h
  simp only [Act.put, List.setIfInBounds_toArray, List.set_cons_succ, List.set_cons_zero]
  refine wpFloat_ex rfl ?_; apply Exists.intro; refine ⟨fun w' hw' => ?_, ?_⟩; (go_simp; first | rfl | exact ⟨rfl, rfl⟩); simp only [Act.put, List.setIfInBounds_toArray, List.set_cons_succ, List.set_cons_zero]
  repeat (quiet_step (fail))
  refine wpQuiet_nil ?_
  rintro _ ⟨n1, rfl⟩
  go_wp2_with fail
  refine Halt.mk ⟨.inr trivial, ?_⟩
  repeat (quiet_step (fail))
  refine wpQuiet_nil ?_
  rintro _ ⟨n2, rfl⟩
  have hg9 : (((w8.drewN (n0 + n1)).setCell ⟨G, 3, none⟩ (.int .u64 (u : Nat))).drewN n2).heap[G]? = some (.cells #[.int .i64 7, .int .i64 A1, .int .i64 0, .int .u64 (u : Nat), .slice none 0 0] 45 (0, 0)) := by have := (heap_setCell_same (w := w8.drewN (n0 + n1)) HG8d.out 3 (.int .u64 (u : Nat))); simpa using this
  have hh9 : (((w8.drewN (n0 + n1)).setCell ⟨G, 3, none⟩ (.int .u64 (u : Nat))).drewN n2).heap[w.heap.size]? = some (.cells #[.int .i64 0, .int .i64 0, .int .i64 0, .int .u64 0, .slice none 0 0] 45 (0, 0)) := (heap_set_ne (w := w8.drewN (n0 + n1)) (p := ⟨G, 3, none⟩) (v := .int .u64 (u : Nat)) HH8d.out hne2)
  have hk9 := ((HK8d.out.drewN (n0 + n1)).own (g := G) (Nat.le_of_lt hGH) 3 (.int .u64 (u : Nat))).drewN n2
  clear y0 y1 y2 y3 y4 yf z0 z1 z2 z3 z4 zf
  generalize ((w8.drewN (n0 + n1)).setCell ⟨G, 3, none⟩ (.int .u64 (u : Nat))).drewN n2 = W9 at *
  have HG9 := Lib.hid hg9
  have HH9 := Lib.hid hh9
  have HK9 := Lib.hid hk9
  clear hg9 hh9 hk9
  have HRR := Lib.hid (show r = none by have hr := HR.out; rw [if_pos HA.out] at hr; exact hr.symm)
  clear HR
  obtain ⟨y0, y1, y2, y3, y4⟩ := blk5 HG9.out
  have yf := fun i => frozenB HG9.out i
  obtain ⟨z0, z1, z2, z3, z4⟩ := blk5 HH9.out
  have zf := fun i => frozenB HH9.out i
  go_wp2_with fail
  refine bodyPost_ret (v := .tuple #[.agg #[.int .i64 0, .int .i64 0, .int .i64 0, .int .u64 0, .slice none 0 0], .int .i64 251]) (results_cell_tmp (q := 3) (ty := 45) (ad := ⟨w.heap.size, 0, none⟩) rfl _ rfl (by go_simp)) rfl (none_end HRR.out ?_)
  refine Kept.own5 ?_ (Nat.le_refl _) _ _ _ _ _
  exact HK9.out
end Go.Proofs.YtdinkdmkbfbjbaaGreatDoor
namespace Go.Proofs.YtdinkdmkbfbjbaaGreatDoor
open Go.RowKit
attribute [local go_sem] fold_part fold_some fold_some' partAt_zero

set_option maxRecDepth 100000 in
set_option maxHeartbeats 3200000 in
theorem pparse3t (s : Bs) (hs : s.length ≤ 9000) (w : World) (hV : Vs w) (hM : Mx w) (hk0 : kindV (cutB 32 s).1 = 3) (hA : (parseV (cutB 32 (cutB 32 s).2.1).1).2 = 0) :
    Calls Tryz.prog 10 #[.string ⟨s.toArray⟩] w (ParseEnd (parseP s) w) := by
  have hl1 := cutB_len 32 s
  have hl2 := cutB_len 32 (cutB 32 s).2.1
  have hl3 := cutB_len 32 (cutB 32 (cutB 32 s).2.1).2.1
  have c1 := fun W (hk : Kept NoBlock w W) => pcut s (by omega) 32 W (hM.kept hk)
  have c2 := fun W (hk : Kept NoBlock w W) => pcut (cutB 32 s).2.1 (by omega) 32 W (hM.kept hk)
  have c3 := fun W (hk : Kept NoBlock w W) => pcut (cutB 32 (cutB 32 s).2.1).2.1 (by omega) 32 W (hM.kept hk)
  have cw := fun W (hk : Kept NoBlock w W) => pwhole (cutB 32 (cutB 32 s).2.1).1 (by omega) W (hV.below hk.toB)
  have ck := fun W => pkind (cutB 32 s).1 W
  have cn := fun W (hk : Kept NoBlock w W) => pwhole (cutB 32 (cutB 32 (cutB 32 s).2.1).2.1).1 (by omega) W (hV.below hk.toB)
  have cu := fun W => punq (cutB 32 (cutB 32 s).2.1).2.1 (by omega) W
  have cd3 := fun W (hk : Kept NoBlock w W) => pparseU ⟨(cutB 32 (cutB 32 (cutB 32 s).2.1).2.1).2.1.toArray⟩ (by rw [str_size rfl]; omega) W (hV.below hk.toB)
  have cd2 := fun W (hk : Kept NoBlock w W) => pparseU ⟨(cutB 32 (cutB 32 s).2.1).2.1.toArray⟩ (by rw [str_size rfl]; omega) W (hV.below hk.toB)
  have cl := fun D v W (hf : Deed.Fits D) (hk : Kept NoBlock w W) (h : DeedV W v D) => pline v D W (hV.below hk.toB) h hf
  have hav := parseV_in (cutB 32 (cutB 32 s).2.1).1
  have hnv := parseV_in (cutB 32 (cutB 32 (cutB 32 s).2.1).2.1).1
  have hub : ∀ b, unq (cutB 32 (cutB 32 s).2.1).2.1 = .ok b → b.length ≤ 9000 := fun b hb => by have := unq_blen hb; omega
  generalize hr : parseP s = r
  unfold parseP candP at hr
  rw [hk0] at hr ck
  clear hk0
  generalize (cutB 32 s).1 = l0 at *
  generalize (cutB 32 s).2.2 = b0 at *
  generalize (cutB 32 s).2.1 = l1 at *
  generalize (cutB 32 l1).2.2 = b1 at *
  generalize parseV (cutB 32 l1).1 = A at *
  generalize (cutB 32 l1).1 = l2 at *
  generalize (cutB 32 l1).2.1 = l3 at *
  generalize (cutB 32 l3).2.2 = b2 at *
  generalize parseV (cutB 32 l3).1 = N at *
  generalize (cutB 32 l3).1 = l4 at *
  generalize (cutB 32 l3).2.1 = l5 at *
  obtain ⟨S, hS⟩ : ∃ S : ByteArray, S = ⟨s.toArray⟩ := ⟨_, rfl⟩
  generalize (⟨l0.toArray⟩ : ByteArray) = S0 at *
  generalize (⟨l1.toArray⟩ : ByteArray) = S1 at *
  generalize (⟨l2.toArray⟩ : ByteArray) = S2 at *
  obtain ⟨S3, hS3⟩ : ∃ S : ByteArray, S = ⟨l3.toArray⟩ := ⟨_, rfl⟩
  generalize (⟨l4.toArray⟩ : ByteArray) = S4 at *
  obtain ⟨S5, hS5⟩ : ∃ S : ByteArray, S = ⟨l5.toArray⟩ := ⟨_, rfl⟩
  rw [← hS] at c1 ⊢
  rw [← hS3] at c2 c3 cd2 cu
  rw [← hS5] at c3 cd3
  obtain ⟨A1, A2⟩ := A
  simp only at hA
  subst hA
  have e0 : ((0 : Int) == 0) = true := rfl
  rw [e0] at cw
  clear e0
  obtain ⟨N1, N2⟩ := N
  have H1 := Lib.hid c1
  have H2 := Lib.hid c2
  have H3 := Lib.hid c3
  have HW := Lib.hid cw
  have HKD := Lib.hid ck
  have HN := Lib.hid cn
  have HU := Lib.hid cu
  have HD3 := Lib.hid cd3
  have HD2 := Lib.hid cd2
  have HL := Lib.hid cl
  have HAV := Lib.hid hav
  have HNV := Lib.hid hnv
  have HS := Lib.hid hS
  have HS3 := Lib.hid hS3
  have HS5 := Lib.hid hS5
  have HR := Lib.hid hr
  have HUB := Lib.hid hub
  clear c1 c2 c3 cw ck cn cu cd3 cd2 cl hav hnv hS hS3 hS5 hr hub hl1 hl2 hl3 hV hM hs
  have hk1 : Kept NoBlock w (w.alloc (.cells #[.int .i64 0, .int .i64 0, .int .i64 0, .int .u64 0, .slice none 0 0] 45)) := Kept.allocd _ _
  have hd1 := heap_alloc_new w (.cells #[.int .i64 0, .int .i64 0, .int .i64 0, .int .u64 0, .slice none 0 0] 45)
  have HK1 := Lib.hid hk1
  have HD1 := Lib.hid hd1
  clear hk1 hd1
  go_enter Tryz.func10, Tryz.ntmps10
  go_wp2_with fail
  generalize w.alloc (.cells #[.int .i64 0, .int .i64 0, .int .i64 0, .int .u64 0, .slice none 0 0] 45) = W1 at *
  refine (H1.out _ HK1.out).mono ?_
  rintro e w2 ⟨rfl, hk⟩
  have HK2 := Lib.hid (HK1.out.trans hk)
  have HD2b := Lib.hid (hk.heap HD1.out (fun h => h))
  clear hk HD1
  go_wp2_with fail
  refine (H2.out _ HK2.out).mono ?_
  rintro e w3 ⟨rfl, hk⟩
  have HK3 := Lib.hid (HK2.out.trans hk)
  have HD3b := Lib.hid (hk.heap HD2b.out (fun h => h))
  clear hk HD2b
  go_wp2_with fail
  refine (H3.out _ HK3.out).mono ?_
  rintro e w4 ⟨rfl, hk⟩
  have HK4 := Lib.hid (HK3.out.trans hk)
  have HD4b := Lib.hid (hk.heap HD3b.out (fun h => h))
  clear hk HD3b
  go_wp2_with fail
  refine (HW.out _ HK4.out).mono ?_
  rintro e w5 ⟨rfl, hk⟩
  have HK5 := Lib.hid (HK4.out.trans hk)
  have HD5b := Lib.hid (hk.heap HD4b.out (fun h => h))
  clear hk HD4b
  go_wp2_with fail
  refine (HKD.out _).mono ?_
  rintro e w6 ⟨rfl, hk⟩
  have HK6 := Lib.hid (HK5.out.trans hk)
  have HD6b := Lib.hid (hk.heap HD5b.out (fun h => h))
  clear hk HD5b
  go_wp2_with fail
  obtain ⟨G, hG⟩ : ∃ G, G = w6.heap.size := ⟨_, rfl⟩
  have hGH : w.heap.size < G := by rw [hG]; exact lt_of_heap HD6b.out
  have hg7 : (w6.alloc (.cells #[.int .i64 3, .int .i64 A1, .int .i64 0, .int .u64 0, .slice none 0 0] 45)).heap[G]? = some (.cells #[.int .i64 3, .int .i64 A1, .int .i64 0, .int .u64 0, .slice none 0 0] 45 (0, 0)) := by rw [hG]; exact heap_alloc_new _ _
  have hh7 := (Kept.allocd w6 (.cells #[.int .i64 3, .int .i64 A1, .int .i64 0, .int .u64 0, .slice none 0 0] 45)).heap HD6b.out (fun h => h)
  have hk7 := HK6.out.alloc (.cells #[.int .i64 3, .int .i64 A1, .int .i64 0, .int .u64 0, .slice none 0 0] 45)
  rw [← hG]
  generalize w6.alloc (.cells #[.int .i64 3, .int .i64 A1, .int .i64 0, .int .u64 0, .slice none 0 0] 45) = W7 at *
  clear hG HD6b
  have hne1 : ¬ (G = w.heap.size) := by omega
  have hne2 : ¬ (w.heap.size = G) := by omega
  have HK7 := Lib.hid hk7
  have HG7 := Lib.hid hg7
  have HH7 := Lib.hid hh7
  clear hk7 hg7 hh7
  have hn := HN.out W7 HK7.out
  clear HN
  by_cases hN : N2 = 0
  · have e0 : (N2 == 0) = true := by simpa using hN
    rw [e0] at hn
    clear e0
    refine (hn).mono ?_
    rintro e w8 ⟨rfl, hk⟩
    have HK8 := Lib.hid (HK7.out.trans hk)
    have HG8 := Lib.hid (hk.heap HG7.out (fun h => h))
    have HH8 := Lib.hid (hk.heap HH7.out (fun h => h))
    clear hk
    obtain ⟨y0, y1, y2, y3, y4⟩ := blk5 HG8.out
    have yf := fun i => frozenB HG8.out i
    obtain ⟨z0, z1, z2, z3, z4⟩ := blk5 HH8.out
    have zf := fun i => frozenB HH8.out i
    go_wp2_with fail
    clear y0 y1 y2 y3 y4 yf z0 z1 z2 z3 z4 zf
    have hg9 : (w8.setCell ⟨G, 2, none⟩ (.int .i64 N1)).heap[G]? = some (.cells #[.int .i64 3, .int .i64 A1, .int .i64 N1, .int .u64 0, .slice none 0 0] 45 (0, 0)) := by have := (heap_setCell_same HG8.out 2 (.int .i64 N1)); simpa using this
    have hh9 := (heap_set_ne (p := ⟨G, 2, none⟩) (v := .int .i64 N1) HH8.out hne2)
    have hk9 := (HK8.out.own (g := G) (Nat.le_of_lt hGH) 2 (.int .i64 N1))
    generalize (w8.setCell ⟨G, 2, none⟩ (.int .i64 N1)) = W8 at *
    have HG8 := Lib.hid hg9
    have HH8 := Lib.hid hh9
    have HK8 := Lib.hid hk9
    clear hg9 hh9 hk9
    have hd := HD3.out W8 HK8.out
    clear HD2 HD3 HU
    refine hd.mono ?_
    rintro e w8 ⟨u, ev, rfl, hb, hu, hev⟩
    have hk := Kept.ofB hb
    clear hb hd
    have HK8d := Lib.hid (HK8.out.trans hk)
    have HG8d := Lib.hid (hk.heap HG8.out (fun h => h))
    have HH8d := Lib.hid (hk.heap HH8.out (fun h => h))
    have HU := Lib.hid hu
    clear hk hu
    obtain ⟨y0, y1, y2, y3, y4⟩ := blk5 HG8d.out
    have yf := fun i => frozenB HG8d.out i
    obtain ⟨z0, z1, z2, z3, z4⟩ := blk5 HH8d.out
    have zf := fun i => frozenB HH8d.out i
    rcases hev with ⟨rfl, hok⟩ | ⟨⟨tt, pp, rfl⟩, hno⟩
    · have hdv : drawV l5 = some u := by unfold drawV; rw [← show (⟨l5.toArray⟩ : ByteArray).data.toList = l5 from rfl, ← HS5.out, hok]
      have HDR := Lib.hid hdv
      clear hok hdv
      go_wp2_with fail
      refine wp_planC (fun _ => True) 9 [.flt 1, .flt 2, .flt 3, .flt 4, .flt 5, .seg [0, 6] 7] [8] (by kernel_rfl) (by kernel_rfl) (fun _ _ _ dst _ h => by cases dst <;> exact h) (fun _ _ h => h) trivial (fun n0 => ?_)
      simp only [wpPlanC, pick, List.filterMap_cons, List.filterMap_nil, List.getElem?_cons_succ, List.getElem?_cons_zero]
      iterate 2 (refine wpFloat_ex rfl ?_; apply Exists.intro; refine ⟨fun w' hw' => ?_, ?_⟩; (go_simp; first | rfl | exact ⟨rfl, rfl⟩); simp only [Act.put, List.setIfInBounds_toArray, List.set_cons_succ, List.set_cons_zero])
      refine ⟨.nilIface, fun _ w' hw' => ?_, fun h => ?_, ?_⟩
      · go_simp; first | rfl | exact ⟨rfl, rfl⟩
      · simp [Region.wanted, yielded] at h
      simp only [Act.put, List.setIfInBounds_toArray, List.set_cons_succ, List.set_cons_zero]
      refine ⟨.bool true, fun _ w' hw' => ?_, fun h => ?_, ?_⟩
      · go_simp; first | rfl | exact ⟨rfl, rfl⟩
      · simp [Region.wanted, yielded] at h
      simp only [Act.put, List.setIfInBounds_toArray, List.set_cons_succ, List.set_cons_zero]
      refine wpFloat_ex rfl ?_; apply Exists.intro; refine ⟨fun w' hw' => ?_, ?_⟩; (go_simp; first | rfl | exact ⟨rfl, rfl⟩); simp only [Act.put, List.setIfInBounds_toArray, List.set_cons_succ, List.set_cons_zero]
      repeat (quiet_step (fail))
      refine wpQuiet_nil ?_
      rintro _ ⟨n1, rfl⟩
      go_wp2_with fail
      refine Halt.mk ⟨.inr trivial, ?_⟩
      repeat (quiet_step (fail))
      refine wpQuiet_nil ?_
      rintro _ ⟨n2, rfl⟩
      have hg9 : (((w8.drewN (n0 + n1)).setCell ⟨G, 3, none⟩ (.int .u64 (u : Nat))).drewN n2).heap[G]? = some (.cells #[.int .i64 3, .int .i64 A1, .int .i64 N1, .int .u64 (u : Nat), .slice none 0 0] 45 (0, 0)) := by have := (heap_setCell_same (w := w8.drewN (n0 + n1)) HG8d.out 3 (.int .u64 (u : Nat))); simpa using this
      have hh9 : (((w8.drewN (n0 + n1)).setCell ⟨G, 3, none⟩ (.int .u64 (u : Nat))).drewN n2).heap[w.heap.size]? = some (.cells #[.int .i64 0, .int .i64 0, .int .i64 0, .int .u64 0, .slice none 0 0] 45 (0, 0)) := (heap_set_ne (w := w8.drewN (n0 + n1)) (p := ⟨G, 3, none⟩) (v := .int .u64 (u : Nat)) HH8d.out hne2)
      have hk9 := ((HK8d.out.drewN (n0 + n1)).own (g := G) (Nat.le_of_lt hGH) 3 (.int .u64 (u : Nat))).drewN n2
      clear y0 y1 y2 y3 y4 yf z0 z1 z2 z3 z4 zf
      generalize ((w8.drewN (n0 + n1)).setCell ⟨G, 3, none⟩ (.int .u64 (u : Nat))).drewN n2 = W9 at *
      have HG9 := Lib.hid hg9
      have HH9 := Lib.hid hh9
      have HK9 := Lib.hid hk9
      clear hg9 hh9 hk9
      have HNB := Lib.hid (show ∀ k, vblk (.slice none 0 0) = some k → k ≠ w.heap.size from fun k hk => by cases hk)
      obtain ⟨y0, y1, y2, y3, y4⟩ := blk5 HG9.out
      have yf := fun i => frozenB HG9.out i
      obtain ⟨z0, z1, z2, z3, z4⟩ := blk5 HH9.out
      have zf := fun i => frozenB HH9.out i
      go_wp2_with fail
      clear y0 y1 y2 y3 y4 yf z0 z1 z2 z3 z4 zf
      have hg9 : W9.heap[G]? = some (.cells #[.int .i64 3, .int .i64 A1, .int .i64 N1, .int .u64 (u : Nat), .slice none 0 0] 45 (0, 0)) := by have := HG9.out; simpa using this
      have hh9 := HH9.out
      have hk9 := HK9.out
      have hdv : DeedV W9 (.agg #[.int .i64 3, .int .i64 A1, .int .i64 N1, .int .u64 (u : Nat), .slice none 0 0]) (⟨3, A1, N1, u, []⟩ : Deed) := ⟨_, rfl, (BytesV.nil _)⟩
      have htb : TypedB W9 (.slice none 0 0) := (fun k hk => by cases hk)
      have HG9 := Lib.hid hg9
      have HH9 := Lib.hid hh9
      have HK9 := Lib.hid hk9
      have hl := HL.out (⟨3, A1, N1, u, []⟩ : Deed) _ W9 ⟨by simp, HAV.out, HNV.out, HU.out, by simp⟩ hk9 hdv
      have HDV := Lib.hid hdv
      have HTB := Lib.hid htb
      clear hg9 hh9 hk9 hdv htb HL
      by_cases hL : lineD (⟨3, A1, N1, u, []⟩ : Deed) = s
      · have HRR := Lib.hid (show r = some (⟨3, A1, N1, u, []⟩ : Deed) by have hr := HR.out; simpa [HDR.out, hL, hN] using hr.symm)
        have hLe : (⟨(lineD (⟨3, A1, N1, u, []⟩ : Deed)).toArray⟩ : ByteArray) = S := by rw [hL, HS.out]
        rw [hLe] at hl
        clear HR hL hLe
        refine hl.mono ?_
        rintro e w10 ⟨rfl, hk10⟩
        have HK10 := Lib.hid hk10
        have HH10 := Lib.hid (hk10.heap HH9.out (fun h => h))
        have HG10 := Lib.hid (hk10.heap HG9.out (fun h => h))
        clear hl hk10
        obtain ⟨y0, y1, y2, y3, y4⟩ := blk5 HG10.out
        have yf := fun i => frozenB HG10.out i
        obtain ⟨z0, z1, z2, z3, z4⟩ := blk5 HH10.out
        have zf := fun i => frozenB HH10.out i
        go_wp2_with fail
        refine bodyPost_ret (v := .tuple #[.agg #[.int .i64 3, .int .i64 A1, .int .i64 N1, .int .u64 (u : Nat), .slice none 0 0], .int .i64 0]) (results_cell_tmp (q := 3) (ty := 45) (ad := ⟨w.heap.size, 0, none⟩) rfl _ rfl (by go_simp)) rfl (some_end2 (D := (⟨3, A1, N1, u, []⟩ : Deed)) HRR.out (HDV.out.kept HK10.out) rfl HNB.out (HTB.out.kept HK10.out) (HK9.out.trans HK10.out) _ _ _ _ _)
      · have HRR := Lib.hid (show r = none by have hr := HR.out; simpa [HDR.out, hL, hN] using hr.symm)
        obtain ⟨T, hT⟩ : ∃ T : ByteArray, T = ⟨(lineD (⟨3, A1, N1, u, []⟩ : Deed)).toArray⟩ := ⟨_, rfl⟩
        have hse : ¬ (T = S) := fun h => hL (by rw [hT, HS.out] at h; simpa using h)
        have hse' : (T.toList == S.toList) = false := by
          rw [beq_eq_false_iff_ne, Go.ByteArray.toList_eq, Go.ByteArray.toList_eq]
          exact fun h => hse (ByteArray.ext (Array.ext' h))
        rw [← hT] at hl
        clear HR hL hT
        refine hl.mono ?_
        rintro e w10 ⟨rfl, hk10⟩
        have HK10 := Lib.hid (HK9.out.trans hk10)
        have HH10 := Lib.hid (hk10.heap HH9.out (fun h => h))
        have HG10 := Lib.hid (hk10.heap HG9.out (fun h => h))
        clear hl hk10
        obtain ⟨y0, y1, y2, y3, y4⟩ := blk5 HG10.out
        have yf := fun i => frozenB HG10.out i
        obtain ⟨z0, z1, z2, z3, z4⟩ := blk5 HH10.out
        have zf := fun i => frozenB HH10.out i
        go_wp2_with fail
        refine bodyPost_ret (v := .tuple #[.agg #[.int .i64 0, .int .i64 0, .int .i64 0, .int .u64 0, .slice none 0 0], .int .i64 251]) (results_cell_tmp (q := 3) (ty := 45) (ad := ⟨w.heap.size, 0, none⟩) rfl _ rfl (by go_simp)) rfl (none_end HRR.out ?_)
        refine Kept.own5 ?_ (Nat.le_refl _) _ _ _ _ _
        exact HK10.out
    · have hdv : drawV l5 = none := by
        unfold drawV
        rw [← show (⟨l5.toArray⟩ : ByteArray).data.toList = l5 from rfl, ← HS5.out]
        split
        · rename_i v hv; exact absurd hv (hno v)
        · rfl
      have HDR := Lib.hid hdv
      clear hno hdv
      go_wp2_with fail
      refine wp_planC (fun _ => True) 9 [.flt 1, .flt 2, .flt 3, .flt 4, .flt 5, .seg [0, 6] 7] [8] (by kernel_rfl) (by kernel_rfl) (fun _ _ _ dst _ h => by cases dst <;> exact h) (fun _ _ h => h) trivial (fun n0 => ?_)
      simp only [wpPlanC, pick, List.filterMap_cons, List.filterMap_nil, List.getElem?_cons_succ, List.getElem?_cons_zero]
      iterate 2 (refine wpFloat_ex rfl ?_; apply Exists.intro; refine ⟨fun w' hw' => ?_, ?_⟩; (go_simp; first | rfl | exact ⟨rfl, rfl⟩); simp only [Act.put, List.setIfInBounds_toArray, List.set_cons_succ, List.set_cons_zero])
      refine ⟨.iface tt pp, fun _ w' hw' => ?_, fun h => ?_, ?_⟩
      · go_simp; first | rfl | exact ⟨rfl, rfl⟩
      · simp [Region.wanted, yielded] at h
      simp only [Act.put, List.setIfInBounds_toArray, List.set_cons_succ, List.set_cons_zero]
      refine ⟨.bool false, fun _ w' hw' => ?_, fun h => ?_, ?_⟩
      · go_simp; first | rfl | exact ⟨rfl, rfl⟩
      · simp [Region.wanted, yielded] at h
      simp only [Act.put, List.setIfInBounds_toArray, List.set_cons_succ, List.set_cons_zero]
      refine wpFloat_ex rfl ?_; apply Exists.intro; refine ⟨fun w' hw' => ?_, ?_⟩; (go_simp; first | rfl | exact ⟨rfl, rfl⟩); simp only [Act.put, List.setIfInBounds_toArray, List.set_cons_succ, List.set_cons_zero]
      repeat (quiet_step (fail))
      refine wpQuiet_nil ?_
      rintro _ ⟨n1, rfl⟩
      go_wp2_with fail
      refine Halt.mk ⟨.inr trivial, ?_⟩
      repeat (quiet_step (fail))
      refine wpQuiet_nil ?_
      rintro _ ⟨n2, rfl⟩
      have hg9 : (((w8.drewN (n0 + n1)).setCell ⟨G, 3, none⟩ (.int .u64 (u : Nat))).drewN n2).heap[G]? = some (.cells #[.int .i64 3, .int .i64 A1, .int .i64 N1, .int .u64 (u : Nat), .slice none 0 0] 45 (0, 0)) := by have := (heap_setCell_same (w := w8.drewN (n0 + n1)) HG8d.out 3 (.int .u64 (u : Nat))); simpa using this
      have hh9 : (((w8.drewN (n0 + n1)).setCell ⟨G, 3, none⟩ (.int .u64 (u : Nat))).drewN n2).heap[w.heap.size]? = some (.cells #[.int .i64 0, .int .i64 0, .int .i64 0, .int .u64 0, .slice none 0 0] 45 (0, 0)) := (heap_set_ne (w := w8.drewN (n0 + n1)) (p := ⟨G, 3, none⟩) (v := .int .u64 (u : Nat)) HH8d.out hne2)
      have hk9 := ((HK8d.out.drewN (n0 + n1)).own (g := G) (Nat.le_of_lt hGH) 3 (.int .u64 (u : Nat))).drewN n2
      clear y0 y1 y2 y3 y4 yf z0 z1 z2 z3 z4 zf
      generalize ((w8.drewN (n0 + n1)).setCell ⟨G, 3, none⟩ (.int .u64 (u : Nat))).drewN n2 = W9 at *
      have HG9 := Lib.hid hg9
      have HH9 := Lib.hid hh9
      have HK9 := Lib.hid hk9
      clear hg9 hh9 hk9
      have HRR := Lib.hid (show r = none by have hr := HR.out; simpa [HDR.out, hN] using hr.symm)
      clear HR
      obtain ⟨y0, y1, y2, y3, y4⟩ := blk5 HG9.out
      have yf := fun i => frozenB HG9.out i
      obtain ⟨z0, z1, z2, z3, z4⟩ := blk5 HH9.out
      have zf := fun i => frozenB HH9.out i
      go_wp2_with fail
      refine bodyPost_ret (v := .tuple #[.agg #[.int .i64 0, .int .i64 0, .int .i64 0, .int .u64 0, .slice none 0 0], .int .i64 251]) (results_cell_tmp (q := 3) (ty := 45) (ad := ⟨w.heap.size, 0, none⟩) rfl _ rfl (by go_simp)) rfl (none_end HRR.out ?_)
      refine Kept.own5 ?_ (Nat.le_refl _) _ _ _ _ _
      exact HK9.out
  · have e0 : (N2 == 0) = false := by simpa using hN
    rw [e0] at hn
    clear e0
    refine (hn).mono ?_
    rintro e w8 ⟨rfl, hk⟩
    have HK8 := Lib.hid (HK7.out.trans hk)
    have HG8 := Lib.hid (hk.heap HG7.out (fun h => h))
    have HH8 := Lib.hid (hk.heap HH7.out (fun h => h))
    clear hk
    obtain ⟨y0, y1, y2, y3, y4⟩ := blk5 HG8.out
    have yf := fun i => frozenB HG8.out i
    obtain ⟨z0, z1, z2, z3, z4⟩ := blk5 HH8.out
    have zf := fun i => frozenB HH8.out i
    go_wp2_with fail
    clear y0 y1 y2 y3 y4 yf z0 z1 z2 z3 z4 zf
    have hg9 : (w8.setCell ⟨G, 2, none⟩ (.int .i64 N1)).heap[G]? = some (.cells #[.int .i64 3, .int .i64 A1, .int .i64 N1, .int .u64 0, .slice none 0 0] 45 (0, 0)) := by have := (heap_setCell_same HG8.out 2 (.int .i64 N1)); simpa using this
    have hh9 := (heap_set_ne (p := ⟨G, 2, none⟩) (v := .int .i64 N1) HH8.out hne2)
    have hk9 := (HK8.out.own (g := G) (Nat.le_of_lt hGH) 2 (.int .i64 N1))
    generalize (w8.setCell ⟨G, 2, none⟩ (.int .i64 N1)) = W8 at *
    have HG8 := Lib.hid hg9
    have HH8 := Lib.hid hh9
    have HK8 := Lib.hid hk9
    clear hg9 hh9 hk9
    have hd := HD3.out W8 HK8.out
    clear HD2 HD3 HU
    refine hd.mono ?_
    rintro e w8 ⟨u, ev, rfl, hb, hu, hev⟩
    have hk := Kept.ofB hb
    clear hb hd
    have HK8d := Lib.hid (HK8.out.trans hk)
    have HG8d := Lib.hid (hk.heap HG8.out (fun h => h))
    have HH8d := Lib.hid (hk.heap HH8.out (fun h => h))
    have HU := Lib.hid hu
    clear hk hu
    obtain ⟨y0, y1, y2, y3, y4⟩ := blk5 HG8d.out
    have yf := fun i => frozenB HG8d.out i
    obtain ⟨z0, z1, z2, z3, z4⟩ := blk5 HH8d.out
    have zf := fun i => frozenB HH8d.out i
    have HEV := Lib.hid hev
    clear hev
    go_wp2_with fail
    refine wp_planC (fun _ => True) 9 [.flt 1, .flt 2, .flt 3, .flt 4, .flt 5, .seg [0, 6] 7] [8] (by kernel_rfl) (by kernel_rfl) (fun _ _ _ dst _ h => by cases dst <;> exact h) (fun _ _ h => h) trivial (fun n0 => ?_)
    simp only [wpPlanC, pick, List.filterMap_cons, List.filterMap_nil, List.getElem?_cons_succ, List.getElem?_cons_zero]
    iterate 2 (refine wpFloat_ex rfl ?_; apply Exists.intro; refine ⟨fun w' hw' => ?_, ?_⟩; (go_simp; first | rfl | exact ⟨rfl, rfl⟩); simp only [Act.put, List.setIfInBounds_toArray, List.set_cons_succ, List.set_cons_zero])
    refine ⟨undef, fun h => ?_, fun _ => rfl, ?_⟩
    · simp [Region.wanted, yielded] at h
    simp only [Act.put, List.setIfInBounds_toArray, List.set_cons_succ, List.set_cons_zero]
    refine ⟨undef, fun h => ?_, fun _ => rfl, ?_⟩
    · simp [Region.wanted, yielded] at h
    simp only [Act.put, List.setIfInBounds_toArray, List.set_cons_succ, List.set_cons_zero]
    refine wpFloat_ex rfl ?_; apply Exists.intro; refine ⟨fun w' hw' => ?_, ?_⟩; (go_simp; first | rfl | exact ⟨rfl, rfl⟩); simp only [Act.put, List.setIfInBounds_toArray, List.set_cons_succ, List.set_cons_zero]
    repeat (quiet_step (fail))
    refine wpQuiet_nil ?_
    rintro _ ⟨n1, rfl⟩
    go_wp2_with fail
    refine Halt.mk ⟨.inr trivial, ?_⟩
    repeat (quiet_step (fail))
    refine wpQuiet_nil ?_
    rintro _ ⟨n2, rfl⟩
    have hg9 : (((w8.drewN (n0 + n1)).setCell ⟨G, 3, none⟩ (.int .u64 (u : Nat))).drewN n2).heap[G]? = some (.cells #[.int .i64 3, .int .i64 A1, .int .i64 N1, .int .u64 (u : Nat), .slice none 0 0] 45 (0, 0)) := by have := (heap_setCell_same (w := w8.drewN (n0 + n1)) HG8d.out 3 (.int .u64 (u : Nat))); simpa using this
    have hh9 : (((w8.drewN (n0 + n1)).setCell ⟨G, 3, none⟩ (.int .u64 (u : Nat))).drewN n2).heap[w.heap.size]? = some (.cells #[.int .i64 0, .int .i64 0, .int .i64 0, .int .u64 0, .slice none 0 0] 45 (0, 0)) := (heap_set_ne (w := w8.drewN (n0 + n1)) (p := ⟨G, 3, none⟩) (v := .int .u64 (u : Nat)) HH8d.out hne2)
    have hk9 := ((HK8d.out.drewN (n0 + n1)).own (g := G) (Nat.le_of_lt hGH) 3 (.int .u64 (u : Nat))).drewN n2
    clear y0 y1 y2 y3 y4 yf z0 z1 z2 z3 z4 zf
    generalize ((w8.drewN (n0 + n1)).setCell ⟨G, 3, none⟩ (.int .u64 (u : Nat))).drewN n2 = W9 at *
    have HG9 := Lib.hid hg9
    have HH9 := Lib.hid hh9
    have HK9 := Lib.hid hk9
    clear hg9 hh9 hk9
    have HRR := Lib.hid (show r = none by have hr := HR.out; simpa [hN] using hr.symm)
    clear HR
    obtain ⟨y0, y1, y2, y3, y4⟩ := blk5 HG9.out
    have yf := fun i => frozenB HG9.out i
    obtain ⟨z0, z1, z2, z3, z4⟩ := blk5 HH9.out
    have zf := fun i => frozenB HH9.out i
    go_wp2_with fail
    refine bodyPost_ret (v := .tuple #[.agg #[.int .i64 0, .int .i64 0, .int .i64 0, .int .u64 0, .slice none 0 0], .int .i64 251]) (results_cell_tmp (q := 3) (ty := 45) (ad := ⟨w.heap.size, 0, none⟩) rfl _ rfl (by go_simp)) rfl (none_end HRR.out ?_)
    refine Kept.own5 ?_ (Nat.le_refl _) _ _ _ _ _
    exact HK9.out
end Go.Proofs.YtdinkdmkbfbjbaaGreatDoor
namespace Go.Proofs.YtdinkdmkbfbjbaaGreatDoor
open Go.RowKit
attribute [local go_sem] fold_part fold_some fold_some' partAt_zero

set_option maxRecDepth 100000 in
set_option maxHeartbeats 3200000 in
theorem pparse3f (s : Bs) (hs : s.length ≤ 9000) (w : World) (hV : Vs w) (hM : Mx w) (hk0 : kindV (cutB 32 s).1 = 3) (hA : (parseV (cutB 32 (cutB 32 s).2.1).1).2 ≠ 0) :
    Calls Tryz.prog 10 #[.string ⟨s.toArray⟩] w (ParseEnd (parseP s) w) := by
  have hl1 := cutB_len 32 s
  have hl2 := cutB_len 32 (cutB 32 s).2.1
  have hl3 := cutB_len 32 (cutB 32 (cutB 32 s).2.1).2.1
  have c1 := fun W (hk : Kept NoBlock w W) => pcut s (by omega) 32 W (hM.kept hk)
  have c2 := fun W (hk : Kept NoBlock w W) => pcut (cutB 32 s).2.1 (by omega) 32 W (hM.kept hk)
  have c3 := fun W (hk : Kept NoBlock w W) => pcut (cutB 32 (cutB 32 s).2.1).2.1 (by omega) 32 W (hM.kept hk)
  have cw := fun W (hk : Kept NoBlock w W) => pwhole (cutB 32 (cutB 32 s).2.1).1 (by omega) W (hV.below hk.toB)
  have ck := fun W => pkind (cutB 32 s).1 W
  have cn := fun W (hk : Kept NoBlock w W) => pwhole (cutB 32 (cutB 32 (cutB 32 s).2.1).2.1).1 (by omega) W (hV.below hk.toB)
  have cu := fun W => punq (cutB 32 (cutB 32 s).2.1).2.1 (by omega) W
  have cd3 := fun W (hk : Kept NoBlock w W) => pparseU ⟨(cutB 32 (cutB 32 (cutB 32 s).2.1).2.1).2.1.toArray⟩ (by rw [str_size rfl]; omega) W (hV.below hk.toB)
  have cd2 := fun W (hk : Kept NoBlock w W) => pparseU ⟨(cutB 32 (cutB 32 s).2.1).2.1.toArray⟩ (by rw [str_size rfl]; omega) W (hV.below hk.toB)
  have cl := fun D v W (hf : Deed.Fits D) (hk : Kept NoBlock w W) (h : DeedV W v D) => pline v D W (hV.below hk.toB) h hf
  have hav := parseV_in (cutB 32 (cutB 32 s).2.1).1
  have hnv := parseV_in (cutB 32 (cutB 32 (cutB 32 s).2.1).2.1).1
  have hub : ∀ b, unq (cutB 32 (cutB 32 s).2.1).2.1 = .ok b → b.length ≤ 9000 := fun b hb => by have := unq_blen hb; omega
  generalize hr : parseP s = r
  unfold parseP candP at hr
  rw [hk0] at hr ck
  clear hk0
  generalize (cutB 32 s).1 = l0 at *
  generalize (cutB 32 s).2.2 = b0 at *
  generalize (cutB 32 s).2.1 = l1 at *
  generalize (cutB 32 l1).2.2 = b1 at *
  generalize parseV (cutB 32 l1).1 = A at *
  generalize (cutB 32 l1).1 = l2 at *
  generalize (cutB 32 l1).2.1 = l3 at *
  generalize (cutB 32 l3).2.2 = b2 at *
  generalize parseV (cutB 32 l3).1 = N at *
  generalize (cutB 32 l3).1 = l4 at *
  generalize (cutB 32 l3).2.1 = l5 at *
  obtain ⟨S, hS⟩ : ∃ S : ByteArray, S = ⟨s.toArray⟩ := ⟨_, rfl⟩
  generalize (⟨l0.toArray⟩ : ByteArray) = S0 at *
  generalize (⟨l1.toArray⟩ : ByteArray) = S1 at *
  generalize (⟨l2.toArray⟩ : ByteArray) = S2 at *
  obtain ⟨S3, hS3⟩ : ∃ S : ByteArray, S = ⟨l3.toArray⟩ := ⟨_, rfl⟩
  generalize (⟨l4.toArray⟩ : ByteArray) = S4 at *
  obtain ⟨S5, hS5⟩ : ∃ S : ByteArray, S = ⟨l5.toArray⟩ := ⟨_, rfl⟩
  rw [← hS] at c1 ⊢
  rw [← hS3] at c2 c3 cd2 cu
  rw [← hS5] at c3 cd3
  obtain ⟨A1, A2⟩ := A
  simp only at hA
  have e0 : (A2 == 0) = false := by simpa using hA
  rw [e0] at cw
  have HA := Lib.hid hA
  clear e0 hA
  obtain ⟨N1, N2⟩ := N
  have H1 := Lib.hid c1
  have H2 := Lib.hid c2
  have H3 := Lib.hid c3
  have HW := Lib.hid cw
  have HKD := Lib.hid ck
  have HN := Lib.hid cn
  have HU := Lib.hid cu
  have HD3 := Lib.hid cd3
  have HD2 := Lib.hid cd2
  have HL := Lib.hid cl
  have HAV := Lib.hid hav
  have HNV := Lib.hid hnv
  have HS := Lib.hid hS
  have HS3 := Lib.hid hS3
  have HS5 := Lib.hid hS5
  have HR := Lib.hid hr
  have HUB := Lib.hid hub
  clear c1 c2 c3 cw ck cn cu cd3 cd2 cl hav hnv hS hS3 hS5 hr hub hl1 hl2 hl3 hV hM hs
  have hk1 : Kept NoBlock w (w.alloc (.cells #[.int .i64 0, .int .i64 0, .int .i64 0, .int .u64 0, .slice none 0 0] 45)) := Kept.allocd _ _
  have hd1 := heap_alloc_new w (.cells #[.int .i64 0, .int .i64 0, .int .i64 0, .int .u64 0, .slice none 0 0] 45)
  have HK1 := Lib.hid hk1
  have HD1 := Lib.hid hd1
  clear hk1 hd1
  go_enter Tryz.func10, Tryz.ntmps10
  go_wp2_with fail
  generalize w.alloc (.cells #[.int .i64 0, .int .i64 0, .int .i64 0, .int .u64 0, .slice none 0 0] 45) = W1 at *
  refine (H1.out _ HK1.out).mono ?_
  rintro e w2 ⟨rfl, hk⟩
  have HK2 := Lib.hid (HK1.out.trans hk)
  have HD2b := Lib.hid (hk.heap HD1.out (fun h => h))
  clear hk HD1
  go_wp2_with fail
  refine (H2.out _ HK2.out).mono ?_
  rintro e w3 ⟨rfl, hk⟩
  have HK3 := Lib.hid (HK2.out.trans hk)
  have HD3b := Lib.hid (hk.heap HD2b.out (fun h => h))
  clear hk HD2b
  go_wp2_with fail
  refine (H3.out _ HK3.out).mono ?_
  rintro e w4 ⟨rfl, hk⟩
  have HK4 := Lib.hid (HK3.out.trans hk)
  have HD4b := Lib.hid (hk.heap HD3b.out (fun h => h))
  clear hk HD3b
  go_wp2_with fail
  refine (HW.out _ HK4.out).mono ?_
  rintro e w5 ⟨rfl, hk⟩
  have HK5 := Lib.hid (HK4.out.trans hk)
  have HD5b := Lib.hid (hk.heap HD4b.out (fun h => h))
  clear hk HD4b
  go_wp2_with fail
  refine (HKD.out _).mono ?_
  rintro e w6 ⟨rfl, hk⟩
  have HK6 := Lib.hid (HK5.out.trans hk)
  have HD6b := Lib.hid (hk.heap HD5b.out (fun h => h))
  clear hk HD5b
  go_wp2_with fail
  obtain ⟨G, hG⟩ : ∃ G, G = w6.heap.size := ⟨_, rfl⟩
  have hGH : w.heap.size < G := by rw [hG]; exact lt_of_heap HD6b.out
  have hg7 : (w6.alloc (.cells #[.int .i64 3, .int .i64 A1, .int .i64 0, .int .u64 0, .slice none 0 0] 45)).heap[G]? = some (.cells #[.int .i64 3, .int .i64 A1, .int .i64 0, .int .u64 0, .slice none 0 0] 45 (0, 0)) := by rw [hG]; exact heap_alloc_new _ _
  have hh7 := (Kept.allocd w6 (.cells #[.int .i64 3, .int .i64 A1, .int .i64 0, .int .u64 0, .slice none 0 0] 45)).heap HD6b.out (fun h => h)
  have hk7 := HK6.out.alloc (.cells #[.int .i64 3, .int .i64 A1, .int .i64 0, .int .u64 0, .slice none 0 0] 45)
  rw [← hG]
  generalize w6.alloc (.cells #[.int .i64 3, .int .i64 A1, .int .i64 0, .int .u64 0, .slice none 0 0] 45) = W7 at *
  clear hG HD6b
  have hne1 : ¬ (G = w.heap.size) := by omega
  have hne2 : ¬ (w.heap.size = G) := by omega
  have HK7 := Lib.hid hk7
  have HG7 := Lib.hid hg7
  have HH7 := Lib.hid hh7
  clear hk7 hg7 hh7
  have hn := HN.out W7 HK7.out
  clear HN
  refine (hn).mono ?_
  rintro e w8 ⟨rfl, hk⟩
  have HK8 := Lib.hid (HK7.out.trans hk)
  have HG8 := Lib.hid (hk.heap HG7.out (fun h => h))
  have HH8 := Lib.hid (hk.heap HH7.out (fun h => h))
  clear hk
  obtain ⟨y0, y1, y2, y3, y4⟩ := blk5 HG8.out
  have yf := fun i => frozenB HG8.out i
  obtain ⟨z0, z1, z2, z3, z4⟩ := blk5 HH8.out
  have zf := fun i => frozenB HH8.out i
  go_wp2_with fail
  clear y0 y1 y2 y3 y4 yf z0 z1 z2 z3 z4 zf
  have hg9 : (w8.setCell ⟨G, 2, none⟩ (.int .i64 N1)).heap[G]? = some (.cells #[.int .i64 3, .int .i64 A1, .int .i64 N1, .int .u64 0, .slice none 0 0] 45 (0, 0)) := by have := (heap_setCell_same HG8.out 2 (.int .i64 N1)); simpa using this
  have hh9 := (heap_set_ne (p := ⟨G, 2, none⟩) (v := .int .i64 N1) HH8.out hne2)
  have hk9 := (HK8.out.own (g := G) (Nat.le_of_lt hGH) 2 (.int .i64 N1))
  generalize (w8.setCell ⟨G, 2, none⟩ (.int .i64 N1)) = W8 at *
  have HG8 := Lib.hid hg9
  have HH8 := Lib.hid hh9
  have HK8 := Lib.hid hk9
  clear hg9 hh9 hk9
  have hd := HD3.out W8 HK8.out
  clear HD2 HD3 HU
  refine hd.mono ?_
  rintro e w8 ⟨u, ev, rfl, hb, hu, hev⟩
  have hk := Kept.ofB hb
  clear hb hd
  have HK8d := Lib.hid (HK8.out.trans hk)
  have HG8d := Lib.hid (hk.heap HG8.out (fun h => h))
  have HH8d := Lib.hid (hk.heap HH8.out (fun h => h))
  have HU := Lib.hid hu
  clear hk hu
  obtain ⟨y0, y1, y2, y3, y4⟩ := blk5 HG8d.out
  have yf := fun i => frozenB HG8d.out i
  obtain ⟨z0, z1, z2, z3, z4⟩ := blk5 HH8d.out
  have zf := fun i => frozenB HH8d.out i
  have HEV := Lib.hid hev
  clear hev
  go_wp2_with fail
  refine wp_planC (fun _ => True) 9 [.flt 1, .flt 2, .flt 3, .flt 4, .flt 5, .seg [0, 6] 7] [8] (by kernel_rfl) (by kernel_rfl) (fun _ _ _ dst _ h => by cases dst <;> exact h) (fun _ _ h => h) trivial (fun n0 => ?_)
  simp only [wpPlanC, pick, List.filterMap_cons, List.filterMap_nil, List.getElem?_cons_succ, List.getElem?_cons_zero]
  iterate 2 (refine wpFloat_ex rfl ?_; apply Exists.intro; refine ⟨fun w' hw' => ?_, ?_⟩; (go_simp; first | rfl | exact ⟨rfl, rfl⟩); simp only [Act.put, List.setIfInBounds_toArray, List.set_cons_succ, List.set_cons_zero])
  refine ⟨undef, fun h => ?_, fun _ => rfl, ?_⟩
  · simp [Region.wanted, yielded] at h
  simp only [Act.put, List.setIfInBounds_toArray, List.set_cons_succ, List.set_cons_zero]
  refine ⟨undef, fun h => ?_, fun _ => rfl, ?_⟩
  · simp [Region.wanted, yielded] at h
  simp only [Act.put, List.setIfInBounds_toArray, List.set_cons_succ, List.set_cons_zero]
  refine wpFloat_ex rfl ?_; apply Exists.intro; refine ⟨fun w' hw' => ?_, ?_⟩; (go_simp; first | rfl | exact ⟨rfl, rfl⟩); simp only [Act.put, List.setIfInBounds_toArray, List.set_cons_succ, List.set_cons_zero]
  repeat (quiet_step (fail))
  refine wpQuiet_nil ?_
  rintro _ ⟨n1, rfl⟩
  go_wp2_with fail
  refine Halt.mk ⟨.inr trivial, ?_⟩
  repeat (quiet_step (fail))
  refine wpQuiet_nil ?_
  rintro _ ⟨n2, rfl⟩
  have hg9 : (((w8.drewN (n0 + n1)).setCell ⟨G, 3, none⟩ (.int .u64 (u : Nat))).drewN n2).heap[G]? = some (.cells #[.int .i64 3, .int .i64 A1, .int .i64 N1, .int .u64 (u : Nat), .slice none 0 0] 45 (0, 0)) := by have := (heap_setCell_same (w := w8.drewN (n0 + n1)) HG8d.out 3 (.int .u64 (u : Nat))); simpa using this
  have hh9 : (((w8.drewN (n0 + n1)).setCell ⟨G, 3, none⟩ (.int .u64 (u : Nat))).drewN n2).heap[w.heap.size]? = some (.cells #[.int .i64 0, .int .i64 0, .int .i64 0, .int .u64 0, .slice none 0 0] 45 (0, 0)) := (heap_set_ne (w := w8.drewN (n0 + n1)) (p := ⟨G, 3, none⟩) (v := .int .u64 (u : Nat)) HH8d.out hne2)
  have hk9 := ((HK8d.out.drewN (n0 + n1)).own (g := G) (Nat.le_of_lt hGH) 3 (.int .u64 (u : Nat))).drewN n2
  clear y0 y1 y2 y3 y4 yf z0 z1 z2 z3 z4 zf
  generalize ((w8.drewN (n0 + n1)).setCell ⟨G, 3, none⟩ (.int .u64 (u : Nat))).drewN n2 = W9 at *
  have HG9 := Lib.hid hg9
  have HH9 := Lib.hid hh9
  have HK9 := Lib.hid hk9
  clear hg9 hh9 hk9
  have HRR := Lib.hid (show r = none by have hr := HR.out; rw [if_pos HA.out] at hr; exact hr.symm)
  clear HR
  obtain ⟨y0, y1, y2, y3, y4⟩ := blk5 HG9.out
  have yf := fun i => frozenB HG9.out i
  obtain ⟨z0, z1, z2, z3, z4⟩ := blk5 HH9.out
  have zf := fun i => frozenB HH9.out i
  go_wp2_with fail
  refine bodyPost_ret (v := .tuple #[.agg #[.int .i64 0, .int .i64 0, .int .i64 0, .int .u64 0, .slice none 0 0], .int .i64 251]) (results_cell_tmp (q := 3) (ty := 45) (ad := ⟨w.heap.size, 0, none⟩) rfl _ rfl (by go_simp)) rfl (none_end HRR.out ?_)
  refine Kept.own5 ?_ (Nat.le_refl _) _ _ _ _ _
  exact HK9.out
end Go.Proofs.YtdinkdmkbfbjbaaGreatDoor
namespace Go.Proofs.YtdinkdmkbfbjbaaGreatDoor
open Go.RowKit
attribute [local go_sem] fold_part fold_some fold_some' partAt_zero

set_option maxRecDepth 100000 in
set_option maxHeartbeats 3200000 in
theorem pparse0t (s : Bs) (hs : s.length ≤ 9000) (w : World) (hV : Vs w) (hM : Mx w) (h2 : kindV (cutB 32 s).1 ≠ 2) (h3 : kindV (cutB 32 s).1 ≠ 3) (h4 : kindV (cutB 32 s).1 ≠ 4) (h6 : kindV (cutB 32 s).1 ≠ 6) (h7 : kindV (cutB 32 s).1 ≠ 7) (hA : (parseV (cutB 32 (cutB 32 s).2.1).1).2 = 0) :
    Calls Tryz.prog 10 #[.string ⟨s.toArray⟩] w (ParseEnd (parseP s) w) := by
  have hl1 := cutB_len 32 s
  have hl2 := cutB_len 32 (cutB 32 s).2.1
  have hl3 := cutB_len 32 (cutB 32 (cutB 32 s).2.1).2.1
  have c1 := fun W (hk : Kept NoBlock w W) => pcut s (by omega) 32 W (hM.kept hk)
  have c2 := fun W (hk : Kept NoBlock w W) => pcut (cutB 32 s).2.1 (by omega) 32 W (hM.kept hk)
  have c3 := fun W (hk : Kept NoBlock w W) => pcut (cutB 32 (cutB 32 s).2.1).2.1 (by omega) 32 W (hM.kept hk)
  have cw := fun W (hk : Kept NoBlock w W) => pwhole (cutB 32 (cutB 32 s).2.1).1 (by omega) W (hV.below hk.toB)
  have ck := fun W => pkind (cutB 32 s).1 W
  have cn := fun W (hk : Kept NoBlock w W) => pwhole (cutB 32 (cutB 32 (cutB 32 s).2.1).2.1).1 (by omega) W (hV.below hk.toB)
  have cu := fun W => punq (cutB 32 (cutB 32 s).2.1).2.1 (by omega) W
  have cd3 := fun W (hk : Kept NoBlock w W) => pparseU ⟨(cutB 32 (cutB 32 (cutB 32 s).2.1).2.1).2.1.toArray⟩ (by rw [str_size rfl]; omega) W (hV.below hk.toB)
  have cd2 := fun W (hk : Kept NoBlock w W) => pparseU ⟨(cutB 32 (cutB 32 s).2.1).2.1.toArray⟩ (by rw [str_size rfl]; omega) W (hV.below hk.toB)
  have cl := fun D v W (hf : Deed.Fits D) (hk : Kept NoBlock w W) (h : DeedV W v D) => pline v D W (hV.below hk.toB) h hf
  have hav := parseV_in (cutB 32 (cutB 32 s).2.1).1
  have hnv := parseV_in (cutB 32 (cutB 32 (cutB 32 s).2.1).2.1).1
  have hub : ∀ b, unq (cutB 32 (cutB 32 s).2.1).2.1 = .ok b → b.length ≤ 9000 := fun b hb => by have := unq_blen hb; omega
  generalize hr : parseP s = r
  unfold parseP candP at hr
  obtain ⟨k, hkk⟩ : ∃ k, k = kindV (cutB 32 s).1 := ⟨_, rfl⟩
  have hkin := kindV_in (cutB 32 s).1
  rw [← hkk] at hr ck hkin h2 h3 h4 h6 h7
  clear hkk
  generalize (cutB 32 s).1 = l0 at *
  generalize (cutB 32 s).2.2 = b0 at *
  generalize (cutB 32 s).2.1 = l1 at *
  generalize (cutB 32 l1).2.2 = b1 at *
  generalize parseV (cutB 32 l1).1 = A at *
  generalize (cutB 32 l1).1 = l2 at *
  generalize (cutB 32 l1).2.1 = l3 at *
  generalize (cutB 32 l3).2.2 = b2 at *
  generalize parseV (cutB 32 l3).1 = N at *
  generalize (cutB 32 l3).1 = l4 at *
  generalize (cutB 32 l3).2.1 = l5 at *
  obtain ⟨S, hS⟩ : ∃ S : ByteArray, S = ⟨s.toArray⟩ := ⟨_, rfl⟩
  generalize (⟨l0.toArray⟩ : ByteArray) = S0 at *
  generalize (⟨l1.toArray⟩ : ByteArray) = S1 at *
  generalize (⟨l2.toArray⟩ : ByteArray) = S2 at *
  obtain ⟨S3, hS3⟩ : ∃ S : ByteArray, S = ⟨l3.toArray⟩ := ⟨_, rfl⟩
  generalize (⟨l4.toArray⟩ : ByteArray) = S4 at *
  obtain ⟨S5, hS5⟩ : ∃ S : ByteArray, S = ⟨l5.toArray⟩ := ⟨_, rfl⟩
  rw [← hS] at c1 ⊢
  rw [← hS3] at c2 c3 cd2 cu
  rw [← hS5] at c3 cd3
  obtain ⟨A1, A2⟩ := A
  simp only at hA
  subst hA
  have e0 : ((0 : Int) == 0) = true := rfl
  rw [e0] at cw
  clear e0
  obtain ⟨N1, N2⟩ := N
  have H1 := Lib.hid c1
  have H2 := Lib.hid c2
  have H3 := Lib.hid c3
  have HW := Lib.hid cw
  have HKD := Lib.hid ck
  have HN := Lib.hid cn
  have HU := Lib.hid cu
  have HD3 := Lib.hid cd3
  have HD2 := Lib.hid cd2
  have HL := Lib.hid cl
  have HAV := Lib.hid hav
  have HNV := Lib.hid hnv
  have HS := Lib.hid hS
  have HS3 := Lib.hid hS3
  have HS5 := Lib.hid hS5
  have HR := Lib.hid hr
  have HUB := Lib.hid hub
  clear c1 c2 c3 cw ck cn cu cd3 cd2 cl hav hnv hS hS3 hS5 hr hub hl1 hl2 hl3 hV hM hs
  have hk1 : Kept NoBlock w (w.alloc (.cells #[.int .i64 0, .int .i64 0, .int .i64 0, .int .u64 0, .slice none 0 0] 45)) := Kept.allocd _ _
  have hd1 := heap_alloc_new w (.cells #[.int .i64 0, .int .i64 0, .int .i64 0, .int .u64 0, .slice none 0 0] 45)
  have HK1 := Lib.hid hk1
  have HD1 := Lib.hid hd1
  clear hk1 hd1
  go_enter Tryz.func10, Tryz.ntmps10
  go_wp2_with fail
  generalize w.alloc (.cells #[.int .i64 0, .int .i64 0, .int .i64 0, .int .u64 0, .slice none 0 0] 45) = W1 at *
  refine (H1.out _ HK1.out).mono ?_
  rintro e w2 ⟨rfl, hk⟩
  have HK2 := Lib.hid (HK1.out.trans hk)
  have HD2b := Lib.hid (hk.heap HD1.out (fun h => h))
  clear hk HD1
  go_wp2_with fail
  refine (H2.out _ HK2.out).mono ?_
  rintro e w3 ⟨rfl, hk⟩
  have HK3 := Lib.hid (HK2.out.trans hk)
  have HD3b := Lib.hid (hk.heap HD2b.out (fun h => h))
  clear hk HD2b
  go_wp2_with fail
  refine (H3.out _ HK3.out).mono ?_
  rintro e w4 ⟨rfl, hk⟩
  have HK4 := Lib.hid (HK3.out.trans hk)
  have HD4b := Lib.hid (hk.heap HD3b.out (fun h => h))
  clear hk HD3b
  go_wp2_with fail
  refine (HW.out _ HK4.out).mono ?_
  rintro e w5 ⟨rfl, hk⟩
  have HK5 := Lib.hid (HK4.out.trans hk)
  have HD5b := Lib.hid (hk.heap HD4b.out (fun h => h))
  clear hk HD4b
  go_wp2_with fail
  refine (HKD.out _).mono ?_
  rintro e w6 ⟨rfl, hk⟩
  have HK6 := Lib.hid (HK5.out.trans hk)
  have HD6b := Lib.hid (hk.heap HD5b.out (fun h => h))
  clear hk HD5b
  have hGH : w.heap.size < w6.heap.size := lt_of_heap HD6b.out
  have hne1 : ¬ (w6.heap.size = w.heap.size) := by omega
  have hne2 : ¬ (w.heap.size = w6.heap.size) := by omega
  have hg7 := heap_alloc_new w6 (.cells #[.int .i64 k, .int .i64 A1, .int .i64 0, .int .u64 0, .slice none 0 0] 45)
  have hh7 := (Kept.allocd w6 (.cells #[.int .i64 k, .int .i64 A1, .int .i64 0, .int .u64 0, .slice none 0 0] 45)).heap HD6b.out (fun h => h)
  have HK7 := Lib.hid (HK6.out.alloc (.cells #[.int .i64 k, .int .i64 A1, .int .i64 0, .int .u64 0, .slice none 0 0] 45))
  have HG7 := Lib.hid hg7
  have HH7 := Lib.hid hh7
  obtain ⟨z0, z1, z2, z3, z4⟩ := blk5 HD6b.out
  have zf := fun i => frozenB HD6b.out i
  clear hg7 hh7
  have HKIN := Lib.hid hkin
  clear hkin
  have hr1 : (if 1 ≤ k ∧ lineD ⟨k, A1, 0, 0, []⟩ = s then some (⟨k, A1, 0, 0, []⟩ : Deed) else none) = r := by
    rw [← HR.out]; simp [h2, h3, h4, h6, h7]
  have HR1 := Lib.hid hr1
  clear HR hr1
  by_cases hk1 : k < 1
  · have HRR := Lib.hid (show r = none by have hr := HR1.out; rw [if_neg (fun h => by have := h.1; omega)] at hr; exact hr.symm)
    clear HR1
    go_wp2_with fail
    refine bodyPost_ret (v := .tuple #[.agg #[.int .i64 0, .int .i64 0, .int .i64 0, .int .u64 0, .slice none 0 0], .int .i64 251]) (results_cell_tmp (q := 3) (ty := 45) (ad := ⟨w.heap.size, 0, none⟩) rfl _ rfl (by go_simp)) rfl (none_end HRR.out ?_)
    exact (HK6.out.own5 (Nat.le_refl _) _ _ _ _ _).alloc _
  · go_wp2_with fail
    clear z0 z1 z2 z3 z4 zf
    have HK7o := HK7.out
    have HG7o := HG7.out
    have HH7o := HH7.out
    generalize hGG : w6.heap.size = G at *
    generalize w6.alloc (.cells #[.int .i64 k, .int .i64 A1, .int .i64 0, .int .u64 0, .slice none 0 0] 45) = W7 at *
    clear HK7 HG7 HH7 HK6 HD6b hGG
    have HK7 := Lib.hid HK7o
    have HG7 := Lib.hid HG7o
    have HH7 := Lib.hid HH7o
    clear HK7o HG7o HH7o
    have HR := HR1
    clear HR1
    have HNB := Lib.hid (show ∀ k, vblk (.slice none 0 0) = some k → k ≠ w.heap.size from fun k hk => by cases hk)
    have hg9 : W7.heap[G]? = some (.cells #[.int .i64 k, .int .i64 A1, .int .i64 0, .int .u64 0, .slice none 0 0] 45 (0, 0)) := by have := HG7.out; simpa using this
    have hh9 := HH7.out
    have hk9 := HK7.out
    have hdv : DeedV W7 (.agg #[.int .i64 k, .int .i64 A1, .int .i64 0, .int .u64 0, .slice none 0 0]) (⟨k, A1, 0, 0, []⟩ : Deed) := ⟨_, rfl, (BytesV.nil _)⟩
    have htb : TypedB W7 (.slice none 0 0) := (fun k hk => by cases hk)
    generalize W7 = W9 at *
    have HG9 := Lib.hid hg9
    have HH9 := Lib.hid hh9
    have HK9 := Lib.hid hk9
    have hl := HL.out (⟨k, A1, 0, 0, []⟩ : Deed) _ W9 ⟨by have h := HKIN.out; exact ⟨by show _ ≤ k; omega, by show k ≤ _; omega⟩, HAV.out, by simp, by simp, by simp⟩ hk9 hdv
    have HDV := Lib.hid hdv
    have HTB := Lib.hid htb
    clear hg9 hh9 hk9 hdv htb HL
    by_cases hL : lineD (⟨k, A1, 0, 0, []⟩ : Deed) = s
    · have HRR := Lib.hid (show r = some (⟨k, A1, 0, 0, []⟩ : Deed) by have hr := HR.out; rw [if_pos ⟨by omega, hL⟩] at hr; exact hr.symm)
      have hLe : (⟨(lineD (⟨k, A1, 0, 0, []⟩ : Deed)).toArray⟩ : ByteArray) = S := by rw [hL, HS.out]
      rw [hLe] at hl
      clear HR hL hLe
      refine hl.mono ?_
      rintro e w10 ⟨rfl, hk10⟩
      have HK10 := Lib.hid hk10
      have HH10 := Lib.hid (hk10.heap HH9.out (fun h => h))
      have HG10 := Lib.hid (hk10.heap HG9.out (fun h => h))
      clear hl hk10
      obtain ⟨y0, y1, y2, y3, y4⟩ := blk5 HG10.out
      have yf := fun i => frozenB HG10.out i
      obtain ⟨z0, z1, z2, z3, z4⟩ := blk5 HH10.out
      have zf := fun i => frozenB HH10.out i
      go_wp2_with fail
      refine bodyPost_ret (v := .tuple #[.agg #[.int .i64 k, .int .i64 A1, .int .i64 0, .int .u64 0, .slice none 0 0], .int .i64 0]) (results_cell_tmp (q := 3) (ty := 45) (ad := ⟨w.heap.size, 0, none⟩) rfl _ rfl (by go_simp)) rfl (some_end2 (D := (⟨k, A1, 0, 0, []⟩ : Deed)) HRR.out (HDV.out.kept HK10.out) rfl HNB.out (HTB.out.kept HK10.out) (HK9.out.trans HK10.out) _ _ _ _ _)
    · have HRR := Lib.hid (show r = none by have hr := HR.out; rw [if_neg (fun h => hL h.2)] at hr; exact hr.symm)
      obtain ⟨T, hT⟩ : ∃ T : ByteArray, T = ⟨(lineD (⟨k, A1, 0, 0, []⟩ : Deed)).toArray⟩ := ⟨_, rfl⟩
      have hse : ¬ (T = S) := fun h => hL (by rw [hT, HS.out] at h; simpa using h)
      have hse' : (T.toList == S.toList) = false := by
        rw [beq_eq_false_iff_ne, Go.ByteArray.toList_eq, Go.ByteArray.toList_eq]
        exact fun h => hse (ByteArray.ext (Array.ext' h))
      rw [← hT] at hl
      clear HR hL hT
      refine hl.mono ?_
      rintro e w10 ⟨rfl, hk10⟩
      have HK10 := Lib.hid (HK9.out.trans hk10)
      have HH10 := Lib.hid (hk10.heap HH9.out (fun h => h))
      have HG10 := Lib.hid (hk10.heap HG9.out (fun h => h))
      clear hl hk10
      obtain ⟨y0, y1, y2, y3, y4⟩ := blk5 HG10.out
      have yf := fun i => frozenB HG10.out i
      obtain ⟨z0, z1, z2, z3, z4⟩ := blk5 HH10.out
      have zf := fun i => frozenB HH10.out i
      go_wp2_with fail
      refine bodyPost_ret (v := .tuple #[.agg #[.int .i64 0, .int .i64 0, .int .i64 0, .int .u64 0, .slice none 0 0], .int .i64 251]) (results_cell_tmp (q := 3) (ty := 45) (ad := ⟨w.heap.size, 0, none⟩) rfl _ rfl (by go_simp)) rfl (none_end HRR.out ?_)
      refine Kept.own5 ?_ (Nat.le_refl _) _ _ _ _ _
      exact HK10.out
end Go.Proofs.YtdinkdmkbfbjbaaGreatDoor
namespace Go.Proofs.YtdinkdmkbfbjbaaGreatDoor
open Go.RowKit
attribute [local go_sem] fold_part fold_some fold_some' partAt_zero

set_option maxRecDepth 100000 in
set_option maxHeartbeats 3200000 in
theorem pparse0f (s : Bs) (hs : s.length ≤ 9000) (w : World) (hV : Vs w) (hM : Mx w) (h2 : kindV (cutB 32 s).1 ≠ 2) (h3 : kindV (cutB 32 s).1 ≠ 3) (h4 : kindV (cutB 32 s).1 ≠ 4) (h6 : kindV (cutB 32 s).1 ≠ 6) (h7 : kindV (cutB 32 s).1 ≠ 7) (hA : (parseV (cutB 32 (cutB 32 s).2.1).1).2 ≠ 0) :
    Calls Tryz.prog 10 #[.string ⟨s.toArray⟩] w (ParseEnd (parseP s) w) := by
  have hl1 := cutB_len 32 s
  have hl2 := cutB_len 32 (cutB 32 s).2.1
  have hl3 := cutB_len 32 (cutB 32 (cutB 32 s).2.1).2.1
  have c1 := fun W (hk : Kept NoBlock w W) => pcut s (by omega) 32 W (hM.kept hk)
  have c2 := fun W (hk : Kept NoBlock w W) => pcut (cutB 32 s).2.1 (by omega) 32 W (hM.kept hk)
  have c3 := fun W (hk : Kept NoBlock w W) => pcut (cutB 32 (cutB 32 s).2.1).2.1 (by omega) 32 W (hM.kept hk)
  have cw := fun W (hk : Kept NoBlock w W) => pwhole (cutB 32 (cutB 32 s).2.1).1 (by omega) W (hV.below hk.toB)
  have ck := fun W => pkind (cutB 32 s).1 W
  have cn := fun W (hk : Kept NoBlock w W) => pwhole (cutB 32 (cutB 32 (cutB 32 s).2.1).2.1).1 (by omega) W (hV.below hk.toB)
  have cu := fun W => punq (cutB 32 (cutB 32 s).2.1).2.1 (by omega) W
  have cd3 := fun W (hk : Kept NoBlock w W) => pparseU ⟨(cutB 32 (cutB 32 (cutB 32 s).2.1).2.1).2.1.toArray⟩ (by rw [str_size rfl]; omega) W (hV.below hk.toB)
  have cd2 := fun W (hk : Kept NoBlock w W) => pparseU ⟨(cutB 32 (cutB 32 s).2.1).2.1.toArray⟩ (by rw [str_size rfl]; omega) W (hV.below hk.toB)
  have cl := fun D v W (hf : Deed.Fits D) (hk : Kept NoBlock w W) (h : DeedV W v D) => pline v D W (hV.below hk.toB) h hf
  have hav := parseV_in (cutB 32 (cutB 32 s).2.1).1
  have hnv := parseV_in (cutB 32 (cutB 32 (cutB 32 s).2.1).2.1).1
  have hub : ∀ b, unq (cutB 32 (cutB 32 s).2.1).2.1 = .ok b → b.length ≤ 9000 := fun b hb => by have := unq_blen hb; omega
  generalize hr : parseP s = r
  unfold parseP candP at hr
  obtain ⟨k, hkk⟩ : ∃ k, k = kindV (cutB 32 s).1 := ⟨_, rfl⟩
  have hkin := kindV_in (cutB 32 s).1
  rw [← hkk] at hr ck hkin h2 h3 h4 h6 h7
  clear hkk
  generalize (cutB 32 s).1 = l0 at *
  generalize (cutB 32 s).2.2 = b0 at *
  generalize (cutB 32 s).2.1 = l1 at *
  generalize (cutB 32 l1).2.2 = b1 at *
  generalize parseV (cutB 32 l1).1 = A at *
  generalize (cutB 32 l1).1 = l2 at *
  generalize (cutB 32 l1).2.1 = l3 at *
  generalize (cutB 32 l3).2.2 = b2 at *
  generalize parseV (cutB 32 l3).1 = N at *
  generalize (cutB 32 l3).1 = l4 at *
  generalize (cutB 32 l3).2.1 = l5 at *
  obtain ⟨S, hS⟩ : ∃ S : ByteArray, S = ⟨s.toArray⟩ := ⟨_, rfl⟩
  generalize (⟨l0.toArray⟩ : ByteArray) = S0 at *
  generalize (⟨l1.toArray⟩ : ByteArray) = S1 at *
  generalize (⟨l2.toArray⟩ : ByteArray) = S2 at *
  obtain ⟨S3, hS3⟩ : ∃ S : ByteArray, S = ⟨l3.toArray⟩ := ⟨_, rfl⟩
  generalize (⟨l4.toArray⟩ : ByteArray) = S4 at *
  obtain ⟨S5, hS5⟩ : ∃ S : ByteArray, S = ⟨l5.toArray⟩ := ⟨_, rfl⟩
  rw [← hS] at c1 ⊢
  rw [← hS3] at c2 c3 cd2 cu
  rw [← hS5] at c3 cd3
  obtain ⟨A1, A2⟩ := A
  simp only at hA
  have e0 : (A2 == 0) = false := by simpa using hA
  rw [e0] at cw
  have HA := Lib.hid hA
  clear e0 hA
  obtain ⟨N1, N2⟩ := N
  have H1 := Lib.hid c1
  have H2 := Lib.hid c2
  have H3 := Lib.hid c3
  have HW := Lib.hid cw
  have HKD := Lib.hid ck
  have HN := Lib.hid cn
  have HU := Lib.hid cu
  have HD3 := Lib.hid cd3
  have HD2 := Lib.hid cd2
  have HL := Lib.hid cl
  have HAV := Lib.hid hav
  have HNV := Lib.hid hnv
  have HS := Lib.hid hS
  have HS3 := Lib.hid hS3
  have HS5 := Lib.hid hS5
  have HR := Lib.hid hr
  have HUB := Lib.hid hub
  clear c1 c2 c3 cw ck cn cu cd3 cd2 cl hav hnv hS hS3 hS5 hr hub hl1 hl2 hl3 hV hM hs
  have hk1 : Kept NoBlock w (w.alloc (.cells #[.int .i64 0, .int .i64 0, .int .i64 0, .int .u64 0, .slice none 0 0] 45)) := Kept.allocd _ _
  have hd1 := heap_alloc_new w (.cells #[.int .i64 0, .int .i64 0, .int .i64 0, .int .u64 0, .slice none 0 0] 45)
  have HK1 := Lib.hid hk1
  have HD1 := Lib.hid hd1
  clear hk1 hd1
  go_enter Tryz.func10, Tryz.ntmps10
  go_wp2_with fail
  generalize w.alloc (.cells #[.int .i64 0, .int .i64 0, .int .i64 0, .int .u64 0, .slice none 0 0] 45) = W1 at *
  refine (H1.out _ HK1.out).mono ?_
  rintro e w2 ⟨rfl, hk⟩
  have HK2 := Lib.hid (HK1.out.trans hk)
  have HD2b := Lib.hid (hk.heap HD1.out (fun h => h))
  clear hk HD1
  go_wp2_with fail
  refine (H2.out _ HK2.out).mono ?_
  rintro e w3 ⟨rfl, hk⟩
  have HK3 := Lib.hid (HK2.out.trans hk)
  have HD3b := Lib.hid (hk.heap HD2b.out (fun h => h))
  clear hk HD2b
  go_wp2_with fail
  refine (H3.out _ HK3.out).mono ?_
  rintro e w4 ⟨rfl, hk⟩
  have HK4 := Lib.hid (HK3.out.trans hk)
  have HD4b := Lib.hid (hk.heap HD3b.out (fun h => h))
  clear hk HD3b
  go_wp2_with fail
  refine (HW.out _ HK4.out).mono ?_
  rintro e w5 ⟨rfl, hk⟩
  have HK5 := Lib.hid (HK4.out.trans hk)
  have HD5b := Lib.hid (hk.heap HD4b.out (fun h => h))
  clear hk HD4b
  go_wp2_with fail
  refine (HKD.out _).mono ?_
  rintro e w6 ⟨rfl, hk⟩
  have HK6 := Lib.hid (HK5.out.trans hk)
  have HD6b := Lib.hid (hk.heap HD5b.out (fun h => h))
  clear hk HD5b
  have hGH : w.heap.size < w6.heap.size := lt_of_heap HD6b.out
  have hne1 : ¬ (w6.heap.size = w.heap.size) := by omega
  have hne2 : ¬ (w.heap.size = w6.heap.size) := by omega
  have hg7 := heap_alloc_new w6 (.cells #[.int .i64 k, .int .i64 A1, .int .i64 0, .int .u64 0, .slice none 0 0] 45)
  have hh7 := (Kept.allocd w6 (.cells #[.int .i64 k, .int .i64 A1, .int .i64 0, .int .u64 0, .slice none 0 0] 45)).heap HD6b.out (fun h => h)
  have HK7 := Lib.hid (HK6.out.alloc (.cells #[.int .i64 k, .int .i64 A1, .int .i64 0, .int .u64 0, .slice none 0 0] 45))
  have HG7 := Lib.hid hg7
  have HH7 := Lib.hid hh7
  obtain ⟨z0, z1, z2, z3, z4⟩ := blk5 HD6b.out
  have zf := fun i => frozenB HD6b.out i
  clear hg7 hh7
  have HRR := Lib.hid (show r = none by have hr := HR.out; rw [if_pos HA.out] at hr; exact hr.symm)
  clear HR
  go_wp2_with fail
  refine bodyPost_ret (v := .tuple #[.agg #[.int .i64 0, .int .i64 0, .int .i64 0, .int .u64 0, .slice none 0 0], .int .i64 251]) (results_cell_tmp (q := 3) (ty := 45) (ad := ⟨w.heap.size, 0, none⟩) rfl _ rfl (by go_simp)) rfl (none_end HRR.out ?_)
  exact (HK6.out.own5 (Nat.le_refl _) _ _ _ _ _).alloc _
end Go.Proofs.YtdinkdmkbfbjbaaGreatDoor
namespace Go.Proofs.YtdinkdmkbfbjbaaGreatDoor
open Go.RowKit

theorem pparse (s : Bs) (hs : s.length ≤ 9000) (w : World) (hV : Vs w) (hM : Mx w) :
    Calls Tryz.prog 10 #[.string ⟨s.toArray⟩] w (ParseEnd (parseP s) w) := by
  by_cases h2 : kindV (cutB 32 s).1 = 2
  · by_cases hA : (parseV (cutB 32 (cutB 32 s).2.1).1).2 = 0
    · exact pparse2t s hs w hV hM h2 hA
    · exact pparse2f s hs w hV hM h2 hA
  by_cases h3 : kindV (cutB 32 s).1 = 3
  · by_cases hA : (parseV (cutB 32 (cutB 32 s).2.1).1).2 = 0
    · exact pparse3t s hs w hV hM h3 hA
    · exact pparse3f s hs w hV hM h3 hA
  by_cases h4 : kindV (cutB 32 s).1 = 4
  · by_cases hA : (parseV (cutB 32 (cutB 32 s).2.1).1).2 = 0
    · exact pparse4t s hs w hV hM h4 hA
    · exact pparse4f s hs w hV hM h4 hA
  by_cases h6 : kindV (cutB 32 s).1 = 6
  · by_cases hA : (parseV (cutB 32 (cutB 32 s).2.1).1).2 = 0
    · exact pparse6t s hs w hV hM h6 hA
    · exact pparse6f s hs w hV hM h6 hA
  by_cases h7 : kindV (cutB 32 s).1 = 7
  · by_cases hA : (parseV (cutB 32 (cutB 32 s).2.1).1).2 = 0
    · exact pparse7t s hs w hV hM h7 hA
    · exact pparse7f s hs w hV hM h7 hA
  by_cases hA : (parseV (cutB 32 (cutB 32 s).2.1).1).2 = 0
  · exact pparse0t s hs w hV hM h2 h3 h4 h6 h7 hA
  · exact pparse0f s hs w hV hM h2 h3 h4 h6 h7 hA
end Go.Proofs.YtdinkdmkbfbjbaaGreatDoor

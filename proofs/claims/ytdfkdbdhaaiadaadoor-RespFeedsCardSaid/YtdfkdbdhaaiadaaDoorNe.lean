/- The program's number of a text is the document's: plain lists. -/
import Derived.Test.YtdfkdbdhaaiadaaDoorNr
namespace Go.Proofs.YtdfkdbdhaaiadaaDoor
open Go.RowKit

theorem try_some (l : List UInt8) : ∀ (v : Nat), (∀ c ∈ l, isDig c) → valOf v l ≤ 9223372036854775808 → tryDigits (-(v : Int)) l = some (-((valOf v l : Nat) : Int)) := by
  induction l with
  | nil => intro v _ _; rfl
  | cons c r ih =>
    intro v hd hv
    have hc : isDig c := hd c (by simp)
    have hv' : valOf (v * 10 + (c.toNat - 48)) r ≤ 9223372036854775808 := hv
    have h2 := le_valOf (v * 10 + (c.toNat - 48)) r
    have e : -(v : Int) * 10 - ((c.toNat - 48 : Nat) : Int) = -((v * 10 + (c.toNat - 48) : Nat) : Int) := by omega
    have hc' := hc
    unfold isDig at hc'
    rw [tryDigits, if_pos hc', e, if_neg (by omega)]
    exact ih _ (fun c hc => hd c (by simp [hc])) hv'

theorem some_try (l : List UInt8) : ∀ (v : Nat) (m : Int), v ≤ 9223372036854775808 → tryDigits (-(v : Int)) l = some m → (∀ c ∈ l, isDig c) ∧ m = -((valOf v l : Nat) : Int) ∧ valOf v l ≤ 9223372036854775808 := by
  induction l with
  | nil =>
    intro v m hv h
    simp only [tryDigits, Option.some.injEq] at h
    exact ⟨(fun c hc => by cases hc), h.symm, hv⟩
  | cons c r ih =>
    intro v m hv h
    rw [tryDigits] at h
    split at h
    · rename_i hc
      have e : -(v : Int) * 10 - ((c.toNat - 48 : Nat) : Int) = -((v * 10 + (c.toNat - 48) : Nat) : Int) := by omega
      rw [e] at h
      split at h
      · cases h
      · rename_i hlow
        obtain ⟨h1, h2, h3⟩ := ih _ m (by omega) h
        refine ⟨fun x hx => ?_, h2, h3⟩
        rcases List.mem_cons.1 hx with rfl | hx
        · exact hc
        · exact h1 x hx
    · cases h

theorem dec_of_snoc (e : List UInt8) (c : UInt8) (hc : isDig c) (_he : e ≠ []) (ih : Lib.decDigits (valOf 0 e) = e) (hp : 1 ≤ valOf 0 e) : Lib.decDigits (valOf 0 (e ++ [c])) = e ++ [c] := by
  unfold isDig at hc
  rw [valOf_append, valOf_one]
  obtain ⟨d, hd⟩ : ∃ d, d = c.toNat - 48 := ⟨_, rfl⟩
  rw [← hd]
  have hbig : ¬ (valOf 0 e * 10 + d < 10) := by omega
  rw [dec_big hbig, show (valOf 0 e * 10 + d) / 10 = valOf 0 e by omega, show (valOf 0 e * 10 + d) % 10 = d by omega, ih]
  have : UInt8.ofNat (48 + d) = c := by
    apply UInt8.toNat_inj.1
    rw [toNat_digit (by omega)]; omega
  rw [this]

theorem dec_of (l : List UInt8) : (∀ c ∈ l, isDig c) → l ≠ [] → (l.head?.map (·.toNat) ≠ some 48 ∨ l.length = 1) → Lib.decDigits (valOf 0 l) = l ∧ (l.head?.map (·.toNat) ≠ some 48 → 1 ≤ valOf 0 l) := by
  induction hn : l.length using Nat.strongRecOn generalizing l with
  | _ n ih =>
    intro hd hne hh
    obtain ⟨e, c, rfl⟩ : ∃ e c, l = e ++ [c] := ⟨l.dropLast, l.getLast hne, (List.dropLast_concat_getLast hne).symm⟩
    have hc : isDig c := hd c (by simp)
    have hc' := hc
    unfold isDig at hc'
    cases e with
    | nil =>
      refine ⟨?_, fun h => ?_⟩
      · rw [List.nil_append, valOf_one]
        have hs : 0 * 10 + (c.toNat - 48) < 10 := by omega
        rw [dec_small hs]
        congr 1
        apply UInt8.toNat_inj.1
        rw [toNat_digit hs]; omega
      · rw [List.nil_append, valOf_one]
        simp at h
        omega
    | cons x e =>
      have hlen : ((x :: e) ++ [c]).length = (x :: e).length + 1 := by simp
      have hx : (x :: e).head?.map (·.toNat) ≠ some 48 := by
        rcases hh with h | h
        · simpa using h
        · rw [hlen] at hn; simp only [List.length_cons] at hn; omega
      rw [hlen] at hn
      obtain ⟨i1, i2⟩ := ih (x :: e).length (by omega) (x :: e) rfl (fun y hy => hd y (List.mem_append_left _ hy)) (by simp) (.inl hx)
      have hp := i2 hx
      refine ⟨dec_of_snoc (x :: e) c hc (by simp) i1 hp, fun _ => ?_⟩
      rw [valOf_append, valOf_one]
      omega

theorem dec_head (u : Nat) : ∀ c r, Lib.decDigits u = c :: r → c.toNat = 48 → u = 0 ∧ r = [] := by
  induction u using Nat.strongRecOn with
  | _ u ih =>
    intro c r h hc
    by_cases hs : u < 10
    · rw [dec_small hs] at h
      simp only [List.cons.injEq] at h
      obtain ⟨h1, h2⟩ := h
      rw [← h1, toNat_digit hs] at hc
      exact ⟨by omega, h2.symm⟩
    · rw [dec_big hs] at h
      obtain ⟨x, y, hxy⟩ : ∃ x y, Lib.decDigits (u / 10) = x :: y := by
        cases e : Lib.decDigits (u / 10) with
        | nil => exact absurd e (dec_ne _)
        | cons x y => exact ⟨x, y, rfl⟩
      rw [hxy, List.cons_append, List.cons.injEq] at h
      obtain ⟨h1, _⟩ := h
      have := (ih (u / 10) (by omega) x y hxy (by rw [h1]; exact hc)).1
      omega

/-- What the document says of a number's own text. -/
theorem refV_itoa (v : Int) (h0 : -9223372036854775808 ≤ v) (h1 : v ≤ 9223372036854775807) : badHead (signed (Lib.itoa v)) (behind (Lib.itoa v)) = false ∧ ∃ m, tryDigits 0 (behind (Lib.itoa v)) = some m := by
  have key : ∀ M : Nat, M ≤ 9223372036854775808 → ∃ m, tryDigits 0 (Lib.decDigits M) = some m := fun M hM => by
    have := try_some (Lib.decDigits M) 0 (dec_dig M) (by rw [dec_val]; exact hM)
    exact ⟨_, by simpa using this⟩
  by_cases hv : v < 0
  · obtain ⟨M, rfl⟩ : ∃ M : Nat, v = -(M : Int) := ⟨v.natAbs, by omega⟩
    rw [Lib.itoa_neg M (by omega)]
    have hs : signed (45 :: Lib.decDigits M) = true := rfl
    have hb : behind (45 :: Lib.decDigits M) = Lib.decDigits M := rfl
    rw [hs, hb]
    refine ⟨?_, key M (by omega)⟩
    cases e : Lib.decDigits M with
    | nil => exact absurd e (dec_ne _)
    | cons c r =>
      have : ¬ (c.toNat = 48) := fun h => by have := (dec_head M c r e h).1; omega
      simp [badHead, this]
  · obtain ⟨M, rfl⟩ : ∃ M : Nat, v = (M : Int) := ⟨v.toNat, by omega⟩
    rw [Lib.itoa_nonneg]
    obtain ⟨c, r, e⟩ : ∃ c r, Lib.decDigits M = c :: r := by
      cases e : Lib.decDigits M with
      | nil => exact absurd e (dec_ne _)
      | cons c r => exact ⟨c, r, rfl⟩
    have hc : isDig c := dec_dig M c (by rw [e]; simp)
    unfold isDig at hc
    have hs : signed (Lib.decDigits M) = false := by rw [e]; simp [signed]; omega
    have hb : behind (Lib.decDigits M) = Lib.decDigits M := by unfold behind; rw [hs]; rfl
    rw [hb, hs]
    refine ⟨?_, key M (by omega)⟩
    rw [e]
    by_cases h : c.toNat = 48
    · have := (dec_head M c r e h).2
      subst this
      simp [badHead]
    · simp [badHead, h]

theorem parseV_none {l : List UInt8} (h : ∀ v, -9223372036854775808 ≤ v → v ≤ 9223372036854775807 → Lib.itoa v ≠ l) : parseV l = (0, 10) := by
  rcases parseV_cases l with h1 | ⟨v, _, h2, h3, h4⟩
  · exact h1
  · exact absurd h2 (h v h3 h4)

theorem ref_is_parse (l : List UInt8) : refV l = parseV l := by
  cases hb : badHead (signed l) (behind l) with
  | true =>
    rw [refV_bad hb, parseV_none]
    rintro v h0 h1 rfl
    rw [(refV_itoa v h0 h1).1] at hb
    cases hb
  | false =>
    cases ht : tryDigits 0 (behind l) with
    | none =>
      rw [refV_none hb ht, parseV_none]
      rintro v h0 h1 rfl
      obtain ⟨m, hm⟩ := (refV_itoa v h0 h1).2
      rw [hm] at ht
      cases ht
    | some m =>
      obtain ⟨hd, hm, hV⟩ := some_try (behind l) 0 m (by omega) (by simpa using ht)
      obtain ⟨V, hVe⟩ : ∃ V, V = valOf 0 (behind l) := ⟨_, rfl⟩
      rw [← hVe] at hm hV
      have hne : behind l ≠ [] := fun h => by rw [h] at hb; cases hb
      cases hs : signed l with
      | true =>
        rw [refV_neg hb ht hs]
        obtain ⟨r, hl⟩ : ∃ r, l = 45 :: r := by
          cases l with
          | nil => cases hs
          | cons c r =>
            have : c.toNat = 45 := by simpa [signed] using hs
            exact ⟨r, by rw [show c = 45 from UInt8.toNat_inj.1 this]⟩
        have hbr : behind l = r := by unfold behind; rw [hs, hl]; rfl
        rw [hs] at hb
        have hh : (behind l).head?.map (·.toNat) ≠ some 48 := by
          cases h : behind l with
          | nil => exact absurd h hne
          | cons c q =>
            rw [h] at hb
            simpa [badHead] using hb
        obtain ⟨g1, g2⟩ := dec_of (behind l) hd hne (.inl hh)
        rw [← hVe] at g1 g2
        have hi : Lib.itoa m = l := by
          rw [hm, Lib.itoa_neg V (g2 hh), g1, hbr, hl]
        have hmb : -9223372036854775808 ≤ m ∧ m ≤ 9223372036854775807 := by rw [hm]; omega
        have := parseV_itoa m hmb.1 hmb.2
        rw [hi] at this
        exact this.symm
      | false =>
        have hbl : behind l = l := by unfold behind; rw [hs]; rfl
        have hb0 := hb
        rw [hs] at hb
        have hh : (behind l).head?.map (·.toNat) ≠ some 48 ∨ (behind l).length = 1 := by
          cases h : behind l with
          | nil => exact absurd h hne
          | cons c q =>
            rw [h] at hb
            simp only [badHead, Bool.false_or, Bool.and_eq_false_iff, beq_eq_false_iff_ne, decide_eq_false_iff_not] at hb
            rcases hb with hb | hb
            · exact .inl (by simpa using hb)
            · exact .inr (by rw [List.length_cons]; omega)
        obtain ⟨g1, _⟩ := dec_of (behind l) hd hne hh
        rw [← hVe, hbl] at g1
        by_cases hmin : m = -9223372036854775808
        · rw [refV_min hb0 ht hs hmin, parseV_none]
          intro v h0 h1 hv
          by_cases hneg : v < 0
          · unfold Lib.itoa at hv
            rw [if_pos hneg] at hv
            rw [← hv] at hs
            cases hs
          · obtain ⟨M, rfl⟩ : ∃ M : Nat, v = (M : Int) := ⟨v.toNat, by omega⟩
            rw [Lib.itoa_nonneg] at hv
            have e1 := dec_val M
            rw [hv] at e1
            rw [hbl] at hVe
            omega
        · rw [refV_pos hb0 ht hs hmin]
          have hi : Lib.itoa (V : Int) = l := by rw [Lib.itoa_nonneg, g1]
          have hVb : V ≠ 9223372036854775808 := fun h => hmin (by rw [hm, h]; rfl)
          have hVb2 : (V : Int) ≤ 9223372036854775807 := by omega
          have := parseV_itoa (V : Int) (by omega) hVb2
          rw [hi] at this
          rw [this, hm]
          simp
end Go.Proofs.YtdfkdbdhaaiadaaDoor

/- Texts of numbers, there and back: plain lists. -/
import Derived.Test.YtdfkdbdhaaiadaaDoorN2
namespace Go.Proofs.YtdfkdbdhaaiadaaDoor
open Go.RowKit

def isDig (c : UInt8) : Prop := 48 ≤ c.toNat ∧ c.toNat ≤ 57
def valOf (acc : Nat) : List UInt8 → Nat
  | [] => acc
  | c :: r => valOf (acc * 10 + (c.toNat - 48)) r

theorem valOf_append (acc : Nat) (x y : List UInt8) : valOf acc (x ++ y) = valOf (valOf acc x) y := by
  induction x generalizing acc with
  | nil => rfl
  | cons c x ih => exact ih _
theorem le_valOf (acc : Nat) (l : List UInt8) : acc ≤ valOf acc l := by
  induction l generalizing acc with
  | nil => exact Nat.le_refl _
  | cons c l ih => exact Nat.le_trans (by omega) (ih _)

theorem toNat_digit {d : Nat} (h : d < 10) : (UInt8.ofNat (48 + d)).toNat = 48 + d := by
  rw [UInt8.toNat_ofNat']; omega

theorem dec_dig (u : Nat) : ∀ c ∈ Lib.decDigits u, isDig c := by
  induction u using Nat.strongRecOn with
  | _ u ih =>
    by_cases h : u < 10
    · rw [Lib.decDigits, dif_pos h]
      intro c hc
      obtain rfl := List.mem_singleton.1 hc
      unfold isDig; rw [toNat_digit h]; omega
    · rw [Lib.decDigits, dif_neg h]
      intro c hc
      rcases List.mem_append.1 hc with hc | hc
      · exact ih (u / 10) (by omega) c hc
      · obtain rfl := List.mem_singleton.1 hc
        unfold isDig; rw [toNat_digit (by omega)]; omega

theorem valOf_one (acc : Nat) (c : UInt8) : valOf acc [c] = acc * 10 + (c.toNat - 48) := rfl
theorem dec_small {u : Nat} (h : u < 10) : Lib.decDigits u = [UInt8.ofNat (48 + u)] := by
  rw [Lib.decDigits, dif_pos h]
theorem dec_big {u : Nat} (h : ¬ u < 10) : Lib.decDigits u = Lib.decDigits (u / 10) ++ [UInt8.ofNat (48 + u % 10)] := by
  conv => lhs; rw [Lib.decDigits]
  rw [dif_neg h]
theorem val_small {u : Nat} (h : u < 10) : valOf 0 (Lib.decDigits u) = u := by
  have e := toNat_digit h
  generalize hc : UInt8.ofNat (48 + u) = c at e
  rw [dec_small h, hc, valOf_one, e]
  omega
theorem val_big {u : Nat} (h : ¬ u < 10) (ih : valOf 0 (Lib.decDigits (u / 10)) = u / 10) : valOf 0 (Lib.decDigits u) = u := by
  have e := toNat_digit (show u % 10 < 10 by omega)
  generalize hc : UInt8.ofNat (48 + u % 10) = c at e
  rw [dec_big h, hc, valOf_append, ih, valOf_one, e]
  omega
theorem dec_val (u : Nat) : valOf 0 (Lib.decDigits u) = u := by
  induction u using Nat.strongRecOn with
  | _ u ih =>
    by_cases h : u < 10
    · exact val_small h
    · exact val_big h (ih (u / 10) (by omega))

theorem dec_ne (u : Nat) : Lib.decDigits u ≠ [] := by
  rw [Lib.decDigits]; split <;> simp

theorem parseM_cons (M acc : Nat) (c : UInt8) (r : List UInt8) (h1 : 48 ≤ c.toNat ∧ c.toNat ≤ 57) (h2 : ¬ 1844674407370955162 ≤ acc) (h3 : ¬ M < acc * 10 + (c.toNat - 48)) :
    Lib.parseUintM M acc (c :: r) = Lib.parseUintM M (acc * 10 + (c.toNat - 48)) r := by
  rw [Lib.parseUintM, if_pos h1, if_neg h2, if_neg h3]

theorem parseM_ok (M : Nat) (hM : M ≤ 18446744073709551615) (l : List UInt8) : ∀ (acc : Nat), (∀ c ∈ l, isDig c) → valOf acc l ≤ M → Lib.parseUintM M acc l = .ok (valOf acc l) := by
  induction l with
  | nil => intro acc _ _; rfl
  | cons c r ih =>
    intro acc hd hv
    have h1 : isDig c := hd c (by simp)
    have hv' : valOf (acc * 10 + (c.toNat - 48)) r ≤ M := hv
    have h2 := le_valOf (acc * 10 + (c.toNat - 48)) r
    rw [parseM_cons M acc c r h1 (by omega) (by omega)]
    exact ih _ (fun c hc => hd c (by simp [hc])) hv'

theorem parseB_dec (u : Nat) (h : u ≤ 18446744073709551615) : Lib.parseUintB 64 (Lib.decDigits u) = .ok u := by
  unfold Lib.parseUintB
  rw [if_neg (dec_ne u)]
  have := parseM_ok (2 ^ 64 - 1) (by omega) (Lib.decDigits u) 0 (dec_dig u) (by rw [dec_val]; omega)
  rw [this, dec_val]

theorem parse_itoa (n : Int) (h0 : -9223372036854775808 ≤ n) (h1 : n ≤ 9223372036854775807) : Lib.parseIntB 64 (Lib.itoa n) = .ok n := by
  by_cases hn : n < 0
  · obtain ⟨m, rfl⟩ : ∃ m : Nat, n = -(m : Int) := ⟨n.natAbs, by omega⟩
    rw [Lib.itoa_neg m (by omega)]
    unfold Lib.parseIntB
    have e : (45 : UInt8).toNat = 45 := rfl
    simp only [e, or_true, if_true, parseB_dec m (by omega)]
    rw [if_neg (by simp), if_neg (by simp; omega)]
  · obtain ⟨m, rfl⟩ : ∃ m : Nat, n = (m : Int) := ⟨n.toNat, by omega⟩
    rw [Lib.itoa_nonneg]
    obtain ⟨c, r, hc⟩ : ∃ c r, Lib.decDigits m = c :: r := by
      cases h : Lib.decDigits m with
      | nil => exact absurd h (dec_ne m)
      | cons c r => exact ⟨c, r, rfl⟩
    have hd := dec_dig m c (by rw [hc]; simp)
    unfold isDig at hd
    have hp := parseB_dec m (by omega)
    rw [hc] at hp ⊢
    unfold Lib.parseIntB
    simp only
    rw [if_neg (by omega), hp]
    simp only
    have n1 : ¬ (c.toNat = 45) := by omega
    rw [if_neg (by simp only [n1, not_false_eq_true, true_and]; omega), if_neg (by simp [n1])]
    rw [if_neg n1]

theorem ok_itoa (n : Int) : okUpto (Lib.itoa n) (Lib.itoa n).length := by
  intro i c _ hc
  have hmem : ∀ u, ∀ j c, (Lib.decDigits u)[j]? = some c → okAt i c = true := fun u j c h => by
    have := dec_dig u c (List.mem_of_getElem? h)
    unfold isDig at this
    simp only [okAt, Bool.or_eq_true, Bool.and_eq_true, decide_eq_true_eq]
    exact .inl this
  unfold Lib.itoa at hc
  split at hc
  · cases i with
    | zero =>
      simp at hc
      subst hc
      rfl
    | succ i =>
      rw [List.getElem?_cons_succ] at hc
      exact hmem _ _ _ hc
  · exact hmem _ _ _ hc

theorem parseV_itoa (n : Int) (h0 : -9223372036854775808 ≤ n) (h1 : n ≤ 9223372036854775807) : parseV (Lib.itoa n) = (n, 0) := parseV_ok (ok_itoa n) (parse_itoa n h0 h1) rfl

/-- Either it is no number's text, or that of the number. -/
theorem parseV_cases (l : List UInt8) : parseV l = (0, 10) ∨ ∃ v, parseV l = (v, 0) ∧ Lib.itoa v = l ∧ -9223372036854775808 ≤ v ∧ v ≤ 9223372036854775807 := by
  by_cases h : okUpto l l.length
  · cases e : Lib.parseIntB 64 l with
    | ok v =>
      by_cases hi : Lib.itoa v = l
      · refine .inr ⟨v, parseV_ok h e hi, hi, ?_⟩
        have := Lib.parseIntB_bounds e
        omega
      · exact .inl (parseV_other h e hi)
    | «syntax» => exact .inl (parseV_err h (fun u hu => by rw [e] at hu; cases hu))
    | range => exact .inl (parseV_err h (fun u hu => by rw [e] at hu; cases hu))
  · exact .inl (parseV_bad h)
end Go.Proofs.YtdfkdbdhaaiadaaDoor

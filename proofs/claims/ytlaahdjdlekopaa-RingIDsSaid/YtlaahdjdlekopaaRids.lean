/- 'RingIDs', walked. -/
import Derived.Test.YtlaahdjdlekopaaRd2
import Derived.Test.YtlaahdjdlekopaaRa1
namespace Go.Proofs.Ytlaahdjdlekopaa
open Go.RowKit

theorem readD_append (x y : List UInt8) : ∀ n m, readD n x = some m → readD n (x ++ y) = readD m y := by
  induction x with
  | nil => intro n m h; simp only [readD, Option.some.injEq] at h; rw [h]; rfl
  | cons c x ih =>
    intro n m h
    rw [List.cons_append, readD]
    rw [readD] at h
    split at h
    · cases h
    · rename_i hc
      rw [if_neg hc]
      exact ih _ _ h

theorem ix_hexAt (n i : Nat) : ix (hexAt n i) = n / 2 ^ (60 - 4 * i) % 16 := ix_hex ⟨n / 2 ^ (60 - 4 * i) % 16, Nat.mod_lt _ (by omega)⟩

theorem readD_hex (n : Nat) (hn : n < 18446744073709551616) : ∀ k, k ≤ 16 → readD 0 (hexL n k) = some (n / 2 ^ (64 - 4 * k))
  | 0, _ => by
    have : n / 2 ^ (64 - 4 * 0) = 0 := Nat.div_eq_of_lt (by simpa using hn)
    rw [this]; rfl
  | k + 1, hk => by
    have ih := readD_hex n hn k (by omega)
    have e : hexL n (k + 1) = hexL n k ++ [hexAt n k] := by simp [hexL, List.range_succ]
    rw [e, readD_append _ _ _ _ ih]
    have hx := ix_hexAt n k
    have hlt : n / 2 ^ (60 - 4 * k) % 16 < 16 := Nat.mod_lt _ (by omega)
    rw [readD, hx, if_neg (by omega), readD]
    congr 1
    have e1 : 2 ^ (64 - 4 * k) = 2 ^ (60 - 4 * k) * 16 := by
      rw [show 64 - 4 * k = (60 - 4 * k) + 4 by omega, Nat.pow_add]
    rw [e1, ← Nat.div_div_eq_div_mul, show 64 - 4 * (k + 1) = 60 - 4 * k by omega]
    omega

theorem readV_hex (n : Nat) (hn : n < 18446744073709551616) : readV (hexL n 16) = readR (some n) := by
  unfold readV
  rw [if_pos (by simp [hexL]), readD_hex n hn 16 (by omega)]
  simp

theorem ext_size {s : ByteArray} (_h : 500 < s.size) : (s.extract 0 500).size ≤ 500 := by
  rw [ByteArray.size_extract]; omega

set_option maxHeartbeats 3200000 in
theorem ids (n : Nat) (s : ByteArray) (w : World) (hn : n < 18446744073709551616) : Calls Try.prog 6 #[.int .u64 n, .string s] w fun e w' => e = .returned (.bool true) ∧ Kept NoBlock w w' := by
  by_cases hc : 500 < s.size
  · go_enter Try.func6, Try.ntmps6
    go_wp2_with fail
    have hS5 := ext_size hc
    generalize s.extract 0 500 = S at hS5 ⊢
    have HS := rread S w (by omega)
    have HR := fun w1 => rrread S w1 (by omega)
    obtain ⟨x, hx⟩ : ∃ x, x = (readV S.data.toList).1 := ⟨_, rfl⟩
    obtain ⟨y, hy⟩ : ∃ y, y = (readV S.data.toList).2 := ⟨_, rfl⟩
    rw [← hx, ← hy] at HS
    simp only [← hx, ← hy] at HR
    clear hx hy
    refine HS.mono ?_
    rintro e w1 ⟨rfl, rfl⟩
    clear HS
    go_wp2_with fail
    refine (HR w).mono ?_
    rintro e w2 ⟨rfl, hk2⟩
    clear HR
    have HT := fun w1 => rtext n w1 hn
    have HT2 := fun w1 => rrtext n w1 hn
    have HRd := fun w1 => rread ⟨(hexL n 16).toArray⟩ w1 (by show (hexL n 16).toArray.size ≤ 1000; simp [hexL])
    have e1 : readV (⟨(hexL n 16).toArray⟩ : ByteArray).data.toList = readR (some n) := readV_hex n hn
    simp only [e1] at HRd
    clear e1
    generalize (⟨(hexL n 16).toArray⟩ : ByteArray) = G at HT HT2 HRd
    go_wp2_with fail
    refine (HT w2).mono ?_
    rintro e w3 ⟨rfl, hk3⟩
    by_cases h0 : n = 0
    · have e2 : readR (some n) = (0, 192) := by rw [h0]; rfl
      simp only [e2] at HRd
      have hb0 : ((n : Int) == 0) = true := by rw [beq_iff_eq]; omega
      clear e2 h0
      go_wp2_with fail
      refine (HRd w3).mono ?_
      rintro e w4 ⟨rfl, rfl⟩
      go_wp2_with fail
      refine (HT w3).mono ?_
      rintro e w5 ⟨rfl, hk5⟩
      go_wp2_with fail
      refine (HT2 w5).mono ?_
      rintro e w6 ⟨rfl, hk6⟩
      go_wp2_with fail
      refine (alive_true w6).mono ?_
      rintro e w7 ⟨rfl, hk7⟩
      go_wp2
      go_ret
      exact ⟨rfl, (((hk2.trans hk3).trans hk5).trans hk6).trans hk7⟩
    · have e2 : readR (some n) = (n, 0) := by unfold readR; simp [h0]
      simp only [e2] at HRd
      have hb0 : ((n : Int) == 0) = false := by rw [beq_eq_false_iff_ne]; omega
      clear e2 h0
      go_wp2_with fail
      refine (HRd w3).mono ?_
      rintro e w4 ⟨rfl, rfl⟩
      go_wp2_with fail
      refine (HT w3).mono ?_
      rintro e w5 ⟨rfl, hk5⟩
      go_wp2_with fail
      refine (HT2 w5).mono ?_
      rintro e w6 ⟨rfl, hk6⟩
      go_wp2_with fail
      refine (alive_true w6).mono ?_
      rintro e w7 ⟨rfl, hk7⟩
      go_wp2
      go_ret
      exact ⟨rfl, (((hk2.trans hk3).trans hk5).trans hk6).trans hk7⟩
  · go_enter Try.func6, Try.ntmps6
    go_wp2_with fail
    obtain ⟨S, hSs⟩ : ∃ S, S = s := ⟨_, rfl⟩
    subst hSs
    have HS := rread S w (by omega)
    have HR := fun w1 => rrread S w1 (by omega)
    obtain ⟨x, hx⟩ : ∃ x, x = (readV S.data.toList).1 := ⟨_, rfl⟩
    obtain ⟨y, hy⟩ : ∃ y, y = (readV S.data.toList).2 := ⟨_, rfl⟩
    rw [← hx, ← hy] at HS
    simp only [← hx, ← hy] at HR
    clear hx hy
    refine HS.mono ?_
    rintro e w1 ⟨rfl, rfl⟩
    clear HS
    go_wp2_with fail
    refine (HR w).mono ?_
    rintro e w2 ⟨rfl, hk2⟩
    clear HR
    have HT := fun w1 => rtext n w1 hn
    have HT2 := fun w1 => rrtext n w1 hn
    have HRd := fun w1 => rread ⟨(hexL n 16).toArray⟩ w1 (by show (hexL n 16).toArray.size ≤ 1000; simp [hexL])
    have e1 : readV (⟨(hexL n 16).toArray⟩ : ByteArray).data.toList = readR (some n) := readV_hex n hn
    simp only [e1] at HRd
    clear e1
    generalize (⟨(hexL n 16).toArray⟩ : ByteArray) = G at HT HT2 HRd
    go_wp2_with fail
    refine (HT w2).mono ?_
    rintro e w3 ⟨rfl, hk3⟩
    by_cases h0 : n = 0
    · have e2 : readR (some n) = (0, 192) := by rw [h0]; rfl
      simp only [e2] at HRd
      have hb0 : ((n : Int) == 0) = true := by rw [beq_iff_eq]; omega
      clear e2 h0
      go_wp2_with fail
      refine (HRd w3).mono ?_
      rintro e w4 ⟨rfl, rfl⟩
      go_wp2_with fail
      refine (HT w3).mono ?_
      rintro e w5 ⟨rfl, hk5⟩
      go_wp2_with fail
      refine (HT2 w5).mono ?_
      rintro e w6 ⟨rfl, hk6⟩
      go_wp2_with fail
      refine (alive_true w6).mono ?_
      rintro e w7 ⟨rfl, hk7⟩
      go_wp2
      go_ret
      exact ⟨rfl, (((hk2.trans hk3).trans hk5).trans hk6).trans hk7⟩
    · have e2 : readR (some n) = (n, 0) := by unfold readR; simp [h0]
      simp only [e2] at HRd
      have hb0 : ((n : Int) == 0) = false := by rw [beq_eq_false_iff_ne]; omega
      clear e2 h0
      go_wp2_with fail
      refine (HRd w3).mono ?_
      rintro e w4 ⟨rfl, rfl⟩
      go_wp2_with fail
      refine (HT w3).mono ?_
      rintro e w5 ⟨rfl, hk5⟩
      go_wp2_with fail
      refine (HT2 w5).mono ?_
      rintro e w6 ⟨rfl, hk6⟩
      go_wp2_with fail
      refine (alive_true w6).mono ?_
      rintro e w7 ⟨rfl, hk7⟩
      go_wp2
      go_ret
      exact ⟨rfl, (((hk2.trans hk3).trans hk5).trans hk6).trans hk7⟩
end Go.Proofs.Ytlaahdjdlekopaa

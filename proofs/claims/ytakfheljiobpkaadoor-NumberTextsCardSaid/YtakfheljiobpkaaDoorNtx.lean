/- The document's text of a number. -/
import Derived.Test.YtakfheljiobpkaaDoorNum7
import Derived.Test.YtakfheljiobpkaaDoorNum6
import Derived.Test.YtakfheljiobpkaaDoorBytes
import Derived.Laws.Concat
import Derived.LoopNIn
namespace Go.Proofs.YtakfheljiobpkaaDoor
open Go.RowKit

theorem digit_holds (w : World) (d : Nat) (hd : d ≤ 9) : Holds (w.alloc (.cells #[.int .u8 (48 + (d : Int))] 5)) (some ⟨w.heap.size, 0, none⟩) 1 ([UInt8.ofNat (48 + d)].map bv) := by
  refine ⟨rfl, fun _ => ⟨_, rfl, fun j v hj => ?_⟩⟩
  rw [addr_add, Nat.zero_add]
  refine cellB (heap_alloc_new w _) ?_
  have e : bv (UInt8.ofNat (48 + d)) = .int .u8 (48 + (d : Int)) := by
    unfold bv; rw [toNat_digit (by omega)]; simp
  cases j with
  | zero =>
    simp only [List.map_cons, List.getElem?_cons_zero] at hj
    rw [e] at hj
    exact hj
  | succ j => simp at hj

set_option maxHeartbeats 3200000 in
theorem nrtext_pos (N : Nat) (w : World) (hN : 0 < N) (hN2 : N ≤ 9223372036854775807) : Calls Tryd.prog 13 #[.int .i64 ((N : Int))] w fun e w' => e = .returned (.string ⟨(Lib.decDigits N).toArray⟩) ∧ Kept NoBlock w w' := by
  have hn0 : ¬ ((N : Int) = 0) := by omega
  have hnb : ((N : Int) == 0) = false := by simpa using hn0
  have hN20 : N < 10 ^ 20 := by
    have : (10 : Nat) ^ 20 = 100000000000000000000 := by decide
    omega
  go_enter Tryd.func13, Tryd.ntmps13
  go_wp2
  go_loopw [3, 4] (fun vs vm wr => ∃ (M : Nat) (suf : List UInt8), M ≤ N ∧ vm = .int .i64 ((M : Int)) ∧ vs = .string ⟨suf.toArray⟩ ∧ Lib.decDigits N = (if M = 0 then suf else Lib.decDigits M ++ suf) ∧ suf.length ≤ 20 ∧ M < 10 ^ (20 - suf.length) ∧ Kept NoBlock w wr) (fun _ vm _ => (intOf vm).natAbs)
  case atStart => exact ⟨N, [], Nat.le_refl _, rfl, rfl, by rw [if_neg (by omega), List.append_nil], by simp, hN20, Kept.refl _ _⟩
  case round =>
    obtain ⟨M, suf, hMN, rfl, rfl, hdec, hlen, hpow, hK⟩ := hrel
    by_cases hM : M = 0
    · subst hM
      rw [if_pos rfl] at hdec
      have HD := Lib.hid hdec
      clear hdec hpow
      go_wp2
      go_ret
      exact ⟨by rw [HD.out]; rfl, hK⟩
    · have hMn : ¬ ((M : Int) = 0) := by omega
      have hMb : ((M : Int) == 0) = false := by simpa using hMn
      have hMb2 : ((M : Int) != 0) = true := by simpa using hMn
      have hM64 : M ≤ 9223372036854775807 := by omega
      obtain ⟨d, hd⟩ : ∃ d, d = M % 10 := ⟨_, rfl⟩
      obtain ⟨q, hq⟩ : ∃ q, q = M / 10 := ⟨_, rfl⟩
      have hd9 : d ≤ 9 := by omega
      have hqM : q ≤ M := by omega
      have hqlt : q < M := by omega
      have h1 : ((M : Nat) : Int).tmod 10 = ((d : Nat) : Int) := by rw [hd]; rfl
      have h2 : ((M : Nat) : Int).tdiv 10 = ((q : Nat) : Int) := by rw [hq]; rfl
      have hst : Lib.decDigits N = (if q = 0 then UInt8.ofNat (48 + d) :: suf else Lib.decDigits q ++ UInt8.ofNat (48 + d) :: suf) := by
        rw [hdec, if_neg (by omega)]
        by_cases hs : M < 10
        · rw [dec_small hs, if_pos (by omega), show d = M by omega]; rfl
        · rw [dec_big hs, if_neg (by omega), hd, hq, List.append_assoc]; rfl
      have hp2 : suf.length + 1 ≤ 20 ∧ q < 10 ^ (20 - (suf.length + 1)) := by
        rcases Nat.lt_or_ge suf.length 20 with hl | hl
        · refine ⟨hl, ?_⟩
          rw [show 20 - suf.length = (20 - (suf.length + 1)) + 1 by omega, Nat.pow_succ] at hpow
          rw [hq]; omega
        · rw [show 20 - suf.length = 0 by omega] at hpow
          have : (10 : Nat) ^ 0 = 1 := rfl
          omega
      have HST := Lib.hid hst
      have HP2 := Lib.hid hp2
      obtain ⟨S, hS⟩ : ∃ S : ByteArray, S = ⟨suf.toArray⟩ := ⟨_, rfl⟩
      rw [← hS]
      have hSz : ¬ (9223372036854775807 < (1 : Nat) + S.size) := by
        have : S.size = suf.length := by rw [hS]; rfl
        omega
      have hconv := conv_bytes (P := Tryd.prog) (wr.alloc (.cells #[.int .u8 (48 + (d : Int))] 5)) 54 9 5 Tryd.underlying54 Tryd.underlying5 Tryd.underlying9 1 (digit_holds wr d hd9)
      obtain ⟨T, hT⟩ : ∃ T : ByteArray, T = ⟨[UInt8.ofNat (48 + d)].toArray⟩ := ⟨_, rfl⟩
      rw [← hT] at hconv
      have hTs : T.size = 1 := by rw [hT]; rfl
      have hTS : (⟨(UInt8.ofNat (48 + d) :: suf).toArray⟩ : ByteArray) = T ++ S := by
        rw [hT, hS, ByteArray.mk_append_mk]; rfl
      have HTS := Lib.hid hTS
      clear hq hst hp2 hdec hpow hS hT hTS
      clear hd
      have hdpos : ¬ ((d : Int) < 0) := by omega
      go_wp2
      go_roundw
      case rel => exact ⟨q, UInt8.ofNat (48 + d) :: suf, by omega, rfl, by rw [HTS.out], HST.out, HP2.out.1, HP2.out.2, hK.alloc _⟩
      case measure => simp [intOf]; omega

set_option maxHeartbeats 3200000 in
theorem nrtext_neg (N : Nat) (w : World) (hN : 0 < N) (hN2 : N ≤ 9223372036854775808) : Calls Tryd.prog 13 #[.int .i64 (-(N : Int))] w fun e w' => e = .returned (.string ⟨(45 :: Lib.decDigits N).toArray⟩) ∧ Kept NoBlock w w' := by
  have hn0 : ¬ ((N : Int) = 0) := by omega
  have hnb : ((N : Int) == 0) = false := by simpa using hn0
  have hN20 : N < 10 ^ 20 := by
    have : (10 : Nat) ^ 20 = 100000000000000000000 := by decide
    omega
  go_enter Tryd.func13, Tryd.ntmps13
  go_wp2
  go_loopw [3, 4] (fun vs vm wr => ∃ (M : Nat) (suf : List UInt8), M ≤ N ∧ vm = .int .i64 (-(M : Int)) ∧ vs = .string ⟨suf.toArray⟩ ∧ Lib.decDigits N = (if M = 0 then suf else Lib.decDigits M ++ suf) ∧ suf.length ≤ 20 ∧ M < 10 ^ (20 - suf.length) ∧ Kept NoBlock w wr) (fun _ vm _ => (intOf vm).natAbs)
  case atStart => exact ⟨N, [], Nat.le_refl _, rfl, rfl, by rw [if_neg (by omega), List.append_nil], by simp, hN20, Kept.refl _ _⟩
  case round =>
    obtain ⟨M, suf, hMN, rfl, rfl, hdec, hlen, hpow, hK⟩ := hrel
    by_cases hM : M = 0
    · subst hM
      rw [if_pos rfl] at hdec
      have HD := Lib.hid hdec
      clear hdec hpow
      obtain ⟨S, hS⟩ : ∃ S : ByteArray, S = ⟨suf.toArray⟩ := ⟨_, rfl⟩
      rw [← hS]
      have hSz : ¬ (9223372036854775807 < (1 : Nat) + S.size) := by
        have : S.size = suf.length := by rw [hS]; rfl
        omega
      have hT : (⟨(45 :: suf).toArray⟩ : ByteArray) = ⟨#[45]⟩ ++ S := by rw [hS]; exact (ByteArray.mk_append_mk [45] suf).symm
      have HT := Lib.hid hT
      clear hS hT
      have hneg : ¬ (0 ≤ (-(N : Int))) := by omega
      have hneg2 : -(N : Int) < 0 := by omega
      go_wp2
      go_ret
      exact ⟨by rw [HD.out, HT.out]; rfl, hK⟩
    · have hMn : ¬ ((M : Int) = 0) := by omega
      have hMb : ((M : Int) == 0) = false := by simpa using hMn
      have hMb2 : ((M : Int) != 0) = true := by simpa using hMn
      have hM64 : M ≤ 9223372036854775808 := by omega
      obtain ⟨d, hd⟩ : ∃ d, d = M % 10 := ⟨_, rfl⟩
      obtain ⟨q, hq⟩ : ∃ q, q = M / 10 := ⟨_, rfl⟩
      have hd9 : d ≤ 9 := by omega
      have hqM : q ≤ M := by omega
      have hqlt : q < M := by omega
      have h2 : (-((M : Nat) : Int)).tdiv 10 = (-((q : Nat) : Int)) := by rw [hq]; rw [Int.neg_tdiv]; rfl
      have hst : Lib.decDigits N = (if q = 0 then UInt8.ofNat (48 + d) :: suf else Lib.decDigits q ++ UInt8.ofNat (48 + d) :: suf) := by
        rw [hdec, if_neg (by omega)]
        by_cases hs : M < 10
        · rw [dec_small hs, if_pos (by omega), show d = M by omega]; rfl
        · rw [dec_big hs, if_neg (by omega), hd, hq, List.append_assoc]; rfl
      have hp2 : suf.length + 1 ≤ 20 ∧ q < 10 ^ (20 - (suf.length + 1)) := by
        rcases Nat.lt_or_ge suf.length 20 with hl | hl
        · refine ⟨hl, ?_⟩
          rw [show 20 - suf.length = (20 - (suf.length + 1)) + 1 by omega, Nat.pow_succ] at hpow
          rw [hq]; omega
        · rw [show 20 - suf.length = 0 by omega] at hpow
          have : (10 : Nat) ^ 0 = 1 := rfl
          omega
      have HST := Lib.hid hst
      have HP2 := Lib.hid hp2
      obtain ⟨S, hS⟩ : ∃ S : ByteArray, S = ⟨suf.toArray⟩ := ⟨_, rfl⟩
      rw [← hS]
      have hSz : ¬ (9223372036854775807 < (1 : Nat) + S.size) := by
        have : S.size = suf.length := by rw [hS]; rfl
        omega
      have hconv := conv_bytes (P := Tryd.prog) (wr.alloc (.cells #[.int .u8 (48 + (d : Int))] 5)) 54 9 5 Tryd.underlying54 Tryd.underlying5 Tryd.underlying9 1 (digit_holds wr d hd9)
      obtain ⟨T, hT⟩ : ∃ T : ByteArray, T = ⟨[UInt8.ofNat (48 + d)].toArray⟩ := ⟨_, rfl⟩
      rw [← hT] at hconv
      have hTs : T.size = 1 := by rw [hT]; rfl
      have hTS : (⟨(UInt8.ofNat (48 + d) :: suf).toArray⟩ : ByteArray) = T ++ S := by
        rw [hT, hS, ByteArray.mk_append_mk]; rfl
      have HTS := Lib.hid hTS
      clear hq hst hp2 hdec hpow hS hT hTS
      have h1 : (-((M : Nat) : Int)).tmod 10 = -((d : Nat) : Int) := by rw [hd, Int.neg_tmod]; rfl
      by_cases hz : d = 0
      · have h1' : (-((M : Nat) : Int)).tmod 10 = ((d : Nat) : Int) := by rw [h1, hz]; rfl
        have hdpos : ¬ ((d : Int) < 0) := by omega
        clear hd h1 hz
        go_wp2
        go_roundw
        case rel => exact ⟨q, UInt8.ofNat (48 + d) :: suf, by omega, rfl, by rw [HTS.out], HST.out, HP2.out.1, HP2.out.2, hK.alloc _⟩
        case measure => simp [intOf]; omega
      · obtain ⟨dd, hdd⟩ : ∃ dd : Int, dd = -((d : Nat) : Int) := ⟨_, rfl⟩
        have h1' : (-((M : Nat) : Int)).tmod 10 = dd := by rw [h1, hdd]
        have hd1 : dd < 0 := by omega
        have hd2 : -dd = (d : Int) := by omega
        have hd3 : -9 ≤ dd := by omega
        clear hd h1 hz hdd
        go_wp2
        go_roundw
        case rel => exact ⟨q, UInt8.ofNat (48 + d) :: suf, by omega, rfl, by rw [HTS.out], HST.out, HP2.out.1, HP2.out.2, hK.alloc _⟩
        case measure => simp [intOf]; omega
end Go.Proofs.YtakfheljiobpkaaDoor

/- Merged: The document's text of a number (as XNx, over the replies' texts); A reply's bytes, by the document; A request's bytes, by the program and by the document; A request's bytes, by the document; the law of requests. -/
import Derived.Test.YtpekeilpdbdnnaaDoorZYf1
import Derived.Laws.Concat
import Derived.LoopNIn
import Derived.Lib.SmallJoins
set_option linter.all false
namespace Go.Proofs.YtpekeilpdbdnnaaDoor
open Go.RowKit

def In64 (i : Int) : Prop := -9223372036854775808 ≤ i ∧ i ≤ 9223372036854775807
theorem toNat_digit {d : Nat} (h : d < 10) : (UInt8.ofNat (48 + d)).toNat = 48 + d := by
  rw [UInt8.toNat_ofNat']; omega
theorem dec_small {u : Nat} (h : u < 10) : Lib.decDigits u = [UInt8.ofNat (48 + u)] := by
  rw [Lib.decDigits, dif_pos h]
theorem dec_big {u : Nat} (h : ¬ u < 10) : Lib.decDigits u = Lib.decDigits (u / 10) ++ [UInt8.ofNat (48 + u % 10)] := by
  conv => lhs; rw [Lib.decDigits]
  rw [dif_neg h]

theorem digit_holds (w : World) (d : Nat) (hd : d ≤ 9) : Holds (w.alloc (.cells #[.int .u8 (48 + (d : Int))] 5)) (some ⟨w.heap.size, 0, none⟩) 1 ([UInt8.ofNat (48 + d)].map bv) := by
  refine ⟨rfl, fun _ => ⟨_, rfl, fun j v hj => ?_⟩⟩
  rw [addr_add, Nat.zero_add]
  refine cellB (heap_alloc_new w _) ?_
  have e : bv (UInt8.ofNat (48 + d)) = .int .u8 (48 + (d : Int)) := by
    unfold bv; rw [toNat_digit (by omega)]; simp
  cases j with
  | zero =>
    simp only [List.map_cons, List.getElem?_cons_zero] at hj
    rw [e] at hj
    exact hj
  | succ j => simp at hj

set_option maxRecDepth 100000 in
set_option maxHeartbeats 3200000 in
theorem nrtext_pos (N : Nat) (w : World) (hN : 0 < N) (hN2 : N ≤ 9223372036854775807) : Calls Tryd.prog 50 #[.int .i64 ((N : Int))] w fun e w' => e = .returned (.string ⟨(Lib.decDigits N).toArray⟩) ∧ Kept NoBlock w w' := by
  have hn0 : ¬ ((N : Int) = 0) := by omega
  have hnb : ((N : Int) == 0) = false := by simpa using hn0
  have hN20 : N < 10 ^ 20 := by
    have : (10 : Nat) ^ 20 = 100000000000000000000 := by decide
    omega
  go_enter Tryd.func50, Tryd.ntmps50
  go_wp2
  go_loopw [3, 4] (fun vs vm wr => ∃ (M : Nat) (suf : List UInt8), M ≤ N ∧ vm = .int .i64 ((M : Int)) ∧ vs = .string ⟨suf.toArray⟩ ∧ Lib.decDigits N = (if M = 0 then suf else Lib.decDigits M ++ suf) ∧ suf.length ≤ 20 ∧ M < 10 ^ (20 - suf.length) ∧ Kept NoBlock w wr) (fun _ vm _ => (intOf vm).natAbs)
  case atStart => exact ⟨N, [], Nat.le_refl _, rfl, rfl, by rw [if_neg (by omega), List.append_nil], by simp, hN20, Kept.refl _ _⟩
  case round =>
    obtain ⟨M, suf, hMN, rfl, rfl, hdec, hlen, hpow, hK⟩ := hrel
    by_cases hM : M = 0
    · subst hM
      rw [if_pos rfl] at hdec
      have HD := Lib.hid hdec
      clear hdec hpow
      go_wp2
      go_ret
      exact ⟨by rw [HD.out]; rfl, hK⟩
    · have hMn : ¬ ((M : Int) = 0) := by omega
      have hMb : ((M : Int) == 0) = false := by simpa using hMn
      have hMb2 : ((M : Int) != 0) = true := by simpa using hMn
      have hM64 : M ≤ 9223372036854775807 := by omega
      obtain ⟨d, hd⟩ : ∃ d, d = M % 10 := ⟨_, rfl⟩
      obtain ⟨q, hq⟩ : ∃ q, q = M / 10 := ⟨_, rfl⟩
      have hd9 : d ≤ 9 := by omega
      have hqM : q ≤ M := by omega
      have hqlt : q < M := by omega
      have h1 : ((M : Nat) : Int).tmod 10 = ((d : Nat) : Int) := by rw [hd]; rfl
      have h2 : ((M : Nat) : Int).tdiv 10 = ((q : Nat) : Int) := by rw [hq]; rfl
      have hst : Lib.decDigits N = (if q = 0 then UInt8.ofNat (48 + d) :: suf else Lib.decDigits q ++ UInt8.ofNat (48 + d) :: suf) := by
        rw [hdec, if_neg (by omega)]
        by_cases hs : M < 10
        · rw [dec_small hs, if_pos (by omega), show d = M by omega]; rfl
        · rw [dec_big hs, if_neg (by omega), hd, hq, List.append_assoc]; rfl
      have hp2 : suf.length + 1 ≤ 20 ∧ q < 10 ^ (20 - (suf.length + 1)) := by
        rcases Nat.lt_or_ge suf.length 20 with hl | hl
        · refine ⟨hl, ?_⟩
          rw [show 20 - suf.length = (20 - (suf.length + 1)) + 1 by omega, Nat.pow_succ] at hpow
          rw [hq]; omega
        · rw [show 20 - suf.length = 0 by omega] at hpow
          have : (10 : Nat) ^ 0 = 1 := rfl
          omega
      have HST := Lib.hid hst
      have HP2 := Lib.hid hp2
      obtain ⟨S, hS⟩ : ∃ S : ByteArray, S = ⟨suf.toArray⟩ := ⟨_, rfl⟩
      rw [← hS]
      have hSz : ¬ (9223372036854775807 < (1 : Nat) + S.size) := by
        have : S.size = suf.length := by rw [hS]; rfl
        omega
      have hconv := conv_bytes (P := Tryd.prog) (wr.alloc (.cells #[.int .u8 (48 + (d : Int))] 5)) 22 9 5 Tryd.underlying22 Tryd.underlying5 Tryd.underlying9 1 (digit_holds wr d hd9)
      obtain ⟨T, hT⟩ : ∃ T : ByteArray, T = ⟨[UInt8.ofNat (48 + d)].toArray⟩ := ⟨_, rfl⟩
      rw [← hT] at hconv
      have hTs : T.size = 1 := by rw [hT]; rfl
      have hTS : (⟨(UInt8.ofNat (48 + d) :: suf).toArray⟩ : ByteArray) = T ++ S := by
        rw [hT, hS, ByteArray.mk_append_mk]; rfl
      have HTS := Lib.hid hTS
      clear hq hst hp2 hdec hpow hS hT hTS
      clear hd
      have hdpos : ¬ ((d : Int) < 0) := by omega
      go_wp2
      go_roundw
      case rel => exact ⟨q, UInt8.ofNat (48 + d) :: suf, by omega, rfl, by rw [HTS.out], HST.out, HP2.out.1, HP2.out.2, hK.alloc _⟩
      case measure => simp [intOf]; omega

set_option maxRecDepth 100000 in
set_option maxHeartbeats 3200000 in
theorem nrtext_neg (N : Nat) (w : World) (hN : 0 < N) (hN2 : N ≤ 9223372036854775808) : Calls Tryd.prog 50 #[.int .i64 (-(N : Int))] w fun e w' => e = .returned (.string ⟨(45 :: Lib.decDigits N).toArray⟩) ∧ Kept NoBlock w w' := by
  have hn0 : ¬ ((N : Int) = 0) := by omega
  have hnb : ((N : Int) == 0) = false := by simpa using hn0
  have hN20 : N < 10 ^ 20 := by
    have : (10 : Nat) ^ 20 = 100000000000000000000 := by decide
    omega
  go_enter Tryd.func50, Tryd.ntmps50
  go_wp2
  go_loopw [3, 4] (fun vs vm wr => ∃ (M : Nat) (suf : List UInt8), M ≤ N ∧ vm = .int .i64 (-(M : Int)) ∧ vs = .string ⟨suf.toArray⟩ ∧ Lib.decDigits N = (if M = 0 then suf else Lib.decDigits M ++ suf) ∧ suf.length ≤ 20 ∧ M < 10 ^ (20 - suf.length) ∧ Kept NoBlock w wr) (fun _ vm _ => (intOf vm).natAbs)
  case atStart => exact ⟨N, [], Nat.le_refl _, rfl, rfl, by rw [if_neg (by omega), List.append_nil], by simp, hN20, Kept.refl _ _⟩
  case round =>
    obtain ⟨M, suf, hMN, rfl, rfl, hdec, hlen, hpow, hK⟩ := hrel
    by_cases hM : M = 0
    · subst hM
      rw [if_pos rfl] at hdec
      have HD := Lib.hid hdec
      clear hdec hpow
      obtain ⟨S, hS⟩ : ∃ S : ByteArray, S = ⟨suf.toArray⟩ := ⟨_, rfl⟩
      rw [← hS]
      have hSz : ¬ (9223372036854775807 < (1 : Nat) + S.size) := by
        have : S.size = suf.length := by rw [hS]; rfl
        omega
      have hT : (⟨(45 :: suf).toArray⟩ : ByteArray) = ⟨#[45]⟩ ++ S := by rw [hS]; exact (ByteArray.mk_append_mk [45] suf).symm
      have HT := Lib.hid hT
      clear hS hT
      have hneg : ¬ (0 ≤ (-(N : Int))) := by omega
      have hneg2 : -(N : Int) < 0 := by omega
      go_wp2
      go_ret
      exact ⟨by rw [HD.out, HT.out]; rfl, hK⟩
    · have hMn : ¬ ((M : Int) = 0) := by omega
      have hMb : ((M : Int) == 0) = false := by simpa using hMn
      have hMb2 : ((M : Int) != 0) = true := by simpa using hMn
      have hM64 : M ≤ 9223372036854775808 := by omega
      obtain ⟨d, hd⟩ : ∃ d, d = M % 10 := ⟨_, rfl⟩
      obtain ⟨q, hq⟩ : ∃ q, q = M / 10 := ⟨_, rfl⟩
      have hd9 : d ≤ 9 := by omega
      have hqM : q ≤ M := by omega
      have hqlt : q < M := by omega
      have h2 : (-((M : Nat) : Int)).tdiv 10 = (-((q : Nat) : Int)) := by rw [hq]; rw [Int.neg_tdiv]; rfl
      have hst : Lib.decDigits N = (if q = 0 then UInt8.ofNat (48 + d) :: suf else Lib.decDigits q ++ UInt8.ofNat (48 + d) :: suf) := by
        rw [hdec, if_neg (by omega)]
        by_cases hs : M < 10
        · rw [dec_small hs, if_pos (by omega), show d = M by omega]; rfl
        · rw [dec_big hs, if_neg (by omega), hd, hq, List.append_assoc]; rfl
      have hp2 : suf.length + 1 ≤ 20 ∧ q < 10 ^ (20 - (suf.length + 1)) := by
        rcases Nat.lt_or_ge suf.length 20 with hl | hl
        · refine ⟨hl, ?_⟩
          rw [show 20 - suf.length = (20 - (suf.length + 1)) + 1 by omega, Nat.pow_succ] at hpow
          rw [hq]; omega
        · rw [show 20 - suf.length = 0 by omega] at hpow
          have : (10 : Nat) ^ 0 = 1 := rfl
          omega
      have HST := Lib.hid hst
      have HP2 := Lib.hid hp2
      obtain ⟨S, hS⟩ : ∃ S : ByteArray, S = ⟨suf.toArray⟩ := ⟨_, rfl⟩
      rw [← hS]
      have hSz : ¬ (9223372036854775807 < (1 : Nat) + S.size) := by
        have : S.size = suf.length := by rw [hS]; rfl
        omega
      have hconv := conv_bytes (P := Tryd.prog) (wr.alloc (.cells #[.int .u8 (48 + (d : Int))] 5)) 22 9 5 Tryd.underlying22 Tryd.underlying5 Tryd.underlying9 1 (digit_holds wr d hd9)
      obtain ⟨T, hT⟩ : ∃ T : ByteArray, T = ⟨[UInt8.ofNat (48 + d)].toArray⟩ := ⟨_, rfl⟩
      rw [← hT] at hconv
      have hTs : T.size = 1 := by rw [hT]; rfl
      have hTS : (⟨(UInt8.ofNat (48 + d) :: suf).toArray⟩ : ByteArray) = T ++ S := by
        rw [hT, hS, ByteArray.mk_append_mk]; rfl
      have HTS := Lib.hid hTS
      clear hq hst hp2 hdec hpow hS hT hTS
      have h1 : (-((M : Nat) : Int)).tmod 10 = -((d : Nat) : Int) := by rw [hd, Int.neg_tmod]; rfl
      by_cases hz : d = 0
      · have h1' : (-((M : Nat) : Int)).tmod 10 = ((d : Nat) : Int) := by rw [h1, hz]; rfl
        have hdpos : ¬ ((d : Int) < 0) := by omega
        clear hd h1 hz
        go_wp2
        go_roundw
        case rel => exact ⟨q, UInt8.ofNat (48 + d) :: suf, by omega, rfl, by rw [HTS.out], HST.out, HP2.out.1, HP2.out.2, hK.alloc _⟩
        case measure => simp [intOf]; omega
      · obtain ⟨dd, hdd⟩ : ∃ dd : Int, dd = -((d : Nat) : Int) := ⟨_, rfl⟩
        have h1' : (-((M : Nat) : Int)).tmod 10 = dd := by rw [h1, hdd]
        have hd1 : dd < 0 := by omega
        have hd2 : -dd = (d : Int) := by omega
        have hd3 : -9 ≤ dd := by omega
        clear hd h1 hz hdd
        go_wp2
        go_roundw
        case rel => exact ⟨q, UInt8.ofNat (48 + d) :: suf, by omega, rfl, by rw [HTS.out], HST.out, HP2.out.1, HP2.out.2, hK.alloc _⟩
        case measure => simp [intOf]; omega
theorem nrtext (n : Int) (w : World) (hn : In64 n) : Calls Tryd.prog 50 #[.int .i64 n] w fun e w' => e = .returned (.string ⟨(Lib.itoa n).toArray⟩) ∧ Kept NoBlock w w' := by
  obtain ⟨h1, h2⟩ := hn
  rcases Int.lt_trichotomy n 0 with h | h | h
  · obtain ⟨N, rfl⟩ : ∃ N : Nat, n = -(N : Int) := ⟨n.natAbs, by omega⟩
    rw [Lib.itoa_neg N (by omega)]
    exact nrtext_neg N w (by omega) (by omega)
  · subst h
    have e : Lib.itoa 0 = [48] := by
      have := Lib.itoa_nonneg 0
      rw [dec_small (by omega)] at this
      exact this
    rw [e]
    go_enter Tryd.func50, Tryd.ntmps50
    go_wp2
    go_ret
    exact ⟨rfl, Kept.refl _ _⟩
  · obtain ⟨N, rfl⟩ : ∃ N : Nat, n = (N : Int) := ⟨n.toNat, by omega⟩
    rw [Lib.itoa_nonneg]
    exact nrtext_pos N w (by omega) (by omega)

end Go.Proofs.YtpekeilpdbdnnaaDoor
namespace Go.Proofs.YtpekeilpdbdnnaaDoor
open Go.RowKit
attribute [local go_sem] fold_part fold_some fold_some' partAt_zero

/-- '[]byte(text)'. -/
theorem conv_str (w : World) (X : ByteArray) (x : Bs) (hX : X = ⟨x.toArray⟩) (hl : x.length ≤ 1000000000) :
    ∃ v W, (convert 9 22 (.string X)).run Tryd.prog w = .ok v W ∧ OwnT W w.heap.size v x ∧ Kept NoBlock w W := by
  have hsz := str_size hX
  refine ⟨_, _, Lib.run_convert_string_bytes (P := Tryd.prog) w 9 22 5 X Tryd.underlying9 Tryd.underlying22 Tryd.underlying5, ?_, bytesWorld_kept w 5 X⟩
  have := bytesWorld_own w 5 X (by rw [hsz]; unfold maxLen; omega)
  unfold OwnT
  rw [← hsz]
  rwa [show X.data.toList = x by rw [hX]] at this
theorem OwnT.form {w : World} {base : Nat} {v : Value} {xs : Bs} (h : OwnT w base v xs) : ∃ ap cap, v = .slice ap xs.length cap := by
  obtain ⟨ap, cap, rfl, _⟩ := OwnM.form h
  exact ⟨ap, cap, rfl⟩
/-- What the document's bytes leave. -/
def BytEnd (w : World) (y : Bs) (e : Ending) (w' : World) : Prop := ∃ v, e = .returned v ∧ OwnT w' w.heap.size v y ∧ Kept NoBlock w w'
theorem rText (n : Int) (h0 : -9223372036854775808 ≤ n) (h1 : n ≤ 9223372036854775807) (w : World) : Calls Tryd.prog 50 #[.int .i64 n] w fun e w' => e = .returned (strV (Lib.itoa n)) ∧ Kept NoBlock w w' := nrtext n w ⟨h0, h1⟩

set_option maxRecDepth 100000 in
set_option maxHeartbeats 1600000 in
theorem rbytes_text (m : RepM) (hk : m.k = 1 ∨ m.k = 2) (w : World) (hl : (bytesR m.rep).length ≤ 1000000000) :
    Calls Tryd.prog 26 #[repA m] w (BytEnd w (bytesR m.rep)) := by
  have hka := Kept.allocd w (.cells #[.int .i64 m.k, strV m.s, .int .i64 m.n, m.v] 26)
  obtain ⟨S, hS⟩ : ∃ S : ByteArray, S = ⟨m.s.toArray⟩ := ⟨_, rfl⟩
  have hSz := str_size hS
  rcases hk with hk | hk
  · skip
    have he : bytesR m.rep = 43 :: (m.s ++ [13, 10]) := by rw [bytes_eq, if_pos hk]
    rw [he] at hl ⊢
    have hX : (⟨#[43]⟩ : ByteArray) ++ S ++ ⟨#[13, 10]⟩ = ⟨(43 :: (m.s ++ [13, 10])).toArray⟩ := by
      rw [hS]
      have h1 := str_app [43] m.s
      have h2 := str_app ([43] ++ m.s) [13, 10]
      rw [h1, h2]
      simp
    obtain ⟨v, W, hcv, hown, hkW⟩ := conv_str (w.alloc (.cells #[.int .i64 m.k, strV m.s, .int .i64 m.n, m.v] 26)) _ _ hX hl
    have hs9 : S.size ≤ 1000000000 := by simp at hl; omega
    have q1 : ¬ (9223372036854775807 < (1 : Nat) + S.size) := by omega
    have q2 : ¬ (9223372036854775807 < (1 : Nat) + S.size + 2) := by omega
    have HO := Lib.hid (OwnM.lower hown hka.size)
    have HK := Lib.hid (hka.trans hkW)
    unfold repA
    unfold strV at hcv ⊢
    rw [hk, ← hS] at hcv ⊢
    clear he hl hX hown hkW hka hS hSz
    go_enter Tryd.func26, Tryd.ntmps26
    go_wp2_with fail
    go_ret
    exact ⟨_, rfl, HO.out, HK.out⟩
  · skip
    have he : bytesR m.rep = 45 :: (m.s ++ [13, 10]) := by rw [bytes_eq, if_neg (by omega), if_pos hk]
    rw [he] at hl ⊢
    have hX : (⟨#[45]⟩ : ByteArray) ++ S ++ ⟨#[13, 10]⟩ = ⟨(45 :: (m.s ++ [13, 10])).toArray⟩ := by
      rw [hS]
      have h1 := str_app [45] m.s
      have h2 := str_app ([45] ++ m.s) [13, 10]
      rw [h1, h2]
      simp
    obtain ⟨v, W, hcv, hown, hkW⟩ := conv_str (w.alloc (.cells #[.int .i64 m.k, strV m.s, .int .i64 m.n, m.v] 26)) _ _ hX hl
    have hs9 : S.size ≤ 1000000000 := by simp at hl; omega
    have q1 : ¬ (9223372036854775807 < (1 : Nat) + S.size) := by omega
    have q2 : ¬ (9223372036854775807 < (1 : Nat) + S.size + 2) := by omega
    have HO := Lib.hid (OwnM.lower hown hka.size)
    have HK := Lib.hid (hka.trans hkW)
    unfold repA
    unfold strV at hcv ⊢
    rw [hk, ← hS] at hcv ⊢
    clear he hl hX hown hkW hka hS hSz
    go_enter Tryd.func26, Tryd.ntmps26
    go_wp2_with fail
    go_ret
    exact ⟨_, rfl, HO.out, HK.out⟩
set_option maxRecDepth 100000 in
set_option maxHeartbeats 1600000 in
theorem rbytes_int (m : RepM) (hk : m.k = 3) (hf : FitM m) (w : World) (hl : (bytesR m.rep).length ≤ 1000000000) :
    Calls Tryd.prog 26 #[repA m] w (BytEnd w (bytesR m.rep)) := by
  have hka := Kept.allocd w (.cells #[.int .i64 m.k, strV m.s, .int .i64 m.n, m.v] 26)
  have he : bytesR m.rep = 58 :: (Lib.itoa m.n ++ [13, 10]) := by rw [bytes_eq, if_neg (by omega), if_neg (by omega), if_pos hk]
  rw [he] at hl ⊢
  have HT := Lib.hid (rText m.n hf.n0 hf.n1 (w.alloc (.cells #[.int .i64 m.k, strV m.s, .int .i64 m.n, m.v] 26)))
  obtain ⟨D, hD⟩ : ∃ D : ByteArray, D = ⟨(Lib.itoa m.n).toArray⟩ := ⟨_, rfl⟩
  have hDz := str_size hD
  have hX : (⟨#[58]⟩ : ByteArray) ++ D ++ ⟨#[13, 10]⟩ = ⟨(58 :: (Lib.itoa m.n ++ [13, 10])).toArray⟩ := by
    rw [hD]
    have h1 := str_app [58] (Lib.itoa m.n)
    have h2 := str_app ([58] ++ Lib.itoa m.n) [13, 10]
    rw [h1, h2]
    simp
  have HX := Lib.hid hX
  have HLL := Lib.hid hl
  have hs9 : D.size ≤ 1000000000 := by simp at hl; omega
  have q1 : ¬ (9223372036854775807 < (1 : Nat) + D.size) := by omega
  have q2 : ¬ (9223372036854775807 < (1 : Nat) + D.size + 2) := by omega
  have HKA := Lib.hid hka
  unfold repA
  unfold strV at HT HKA ⊢
  rw [← hD] at HT
  rw [hk] at HT HKA ⊢
  clear he hl hX hka hDz hf hD
  go_enter Tryd.func26, Tryd.ntmps26
  go_wp2_with fail
  refine HT.out.mono ?_
  rintro e w2 ⟨rfl, hk2⟩
  obtain ⟨v, W, hcv, hown, hkW⟩ := conv_str w2 _ _ HX.out HLL.out
  have HO := Lib.hid (OwnM.lower hown (HKA.out.trans hk2).size)
  have HK := Lib.hid ((HKA.out.trans hk2).trans hkW)
  clear hown hkW hk2
  go_wp2_with fail
  go_ret
  exact ⟨_, rfl, HO.out, HK.out⟩
set_option maxRecDepth 100000 in
set_option maxHeartbeats 1600000 in
theorem rbytes_bulk (m : RepM) (hk : m.k = 4) (hf : FitM m) (w : World) (hl : (bytesR m.rep).length ≤ 1000000000) :
    Calls Tryd.prog 26 #[repA m] w (BytEnd w (bytesR m.rep)) := by
  have hka := Kept.allocd w (.cells #[.int .i64 m.k, strV m.s, .int .i64 m.n, m.v] 26)
  have he : bytesR m.rep = 36 :: (Lib.itoa m.s.length ++ ([13, 10] ++ (m.s ++ [13, 10]))) := by rw [bytes_eq, if_neg (by omega), if_neg (by omega), if_neg (by omega), if_pos hk]
  rw [he] at hl ⊢
  have hfs := hf.s
  have hT := rText m.s.length (by omega) (by omega)
  obtain ⟨D, hD⟩ : ∃ D : ByteArray, D = ⟨(Lib.itoa m.s.length).toArray⟩ := ⟨_, rfl⟩
  obtain ⟨S, hS⟩ : ∃ S : ByteArray, S = ⟨m.s.toArray⟩ := ⟨_, rfl⟩
  have hDz := str_size hD
  have hSz := str_size hS
  have hX : (⟨#[36]⟩ : ByteArray) ++ D ++ ⟨#[13, 10]⟩ ++ S ++ ⟨#[13, 10]⟩ = ⟨(36 :: (Lib.itoa m.s.length ++ ([13, 10] ++ (m.s ++ [13, 10])))).toArray⟩ := by
    rw [hD, hS]
    have h1 := str_app [36] (Lib.itoa m.s.length)
    have h2 := str_app ([36] ++ Lib.itoa m.s.length) [13, 10]
    have h3 := str_app ([36] ++ Lib.itoa m.s.length ++ [13, 10]) m.s
    have h4 := str_app ([36] ++ Lib.itoa m.s.length ++ [13, 10] ++ m.s) [13, 10]
    rw [h1, h2, h3, h4]
    simp
  have HX := Lib.hid hX
  have HLL := Lib.hid hl
  have hs9 : D.size + S.size ≤ 1000000000 := by simp at hl; omega
  have q1 : ¬ (9223372036854775807 < (1 : Nat) + D.size) := by omega
  have q2 : ¬ (9223372036854775807 < (1 : Nat) + D.size + 2) := by omega
  have q3 : ¬ (9223372036854775807 < (1 : Nat) + D.size + 2 + S.size) := by omega
  have q4 : ¬ (9223372036854775807 < (1 : Nat) + D.size + 2 + S.size + 2) := by omega
  have hga := heap_alloc_new w (.cells #[.int .i64 m.k, strV m.s, .int .i64 m.n, m.v] 26)
  have HKA := Lib.hid hka
  unfold repA
  unfold strV at hT HKA hga ⊢
  rw [← hD, ← hSz] at hT
  rw [hk, ← hS] at HKA hga ⊢
  have HT := Lib.hid hT
  have HGA := Lib.hid hga
  clear he hl hX hka hDz hf hfs hD hS hSz hga hT
  go_enter Tryd.func26, Tryd.ntmps26
  go_wp2_with fail
  generalize w.alloc (.cells #[.int .i64 4, .string S, .int .i64 m.n, m.v] 26) = W1 at *
  generalize hb : w.heap.size = b at *
  have HB := Lib.hid hb
  clear hb
  obtain ⟨c0, c1, c2, c3⟩ := blk4 HGA.out
  refine wp_planC (fun W => W.cell? ⟨b, 1, none⟩ = some (.string S)) 11 [.flt 6, .flt 7, .seg [0, 1, 2] 3, .seg [4, 5, 8, 9] 10] [11] (by kernel_rfl) (by kernel_rfl) (fun _ _ _ dst _ h => by cases dst <;> exact h) (fun _ _ h => h) c1 (fun n0 => ?_)
  repeat (refine planC_flt rfl rfl ?_; apply Exists.intro; refine ⟨fun w' hw' => ?_, ?_⟩; (go_simp; first | rfl | exact ⟨rfl, rfl⟩); simp only [Act.put, List.setIfInBounds_toArray, List.set_cons_succ, List.set_cons_zero])
  simp only [wpPlanC, pick, List.filterMap_cons, List.filterMap_nil, List.getElem?_cons_succ, List.getElem?_cons_zero]
  repeat (quiet_step (fail))
  refine wpQuiet_nil ?_
  rintro _ ⟨n1, rfl⟩
  have hkd : Kept NoBlock W1 ((W1.drewN n0).drewN n1) := ((Kept.refl NoBlock W1).drewN n0).drewN n1
  have HT2 := Lib.hid (HT.out ((W1.drewN n0).drewN n1))
  have HK2 := Lib.hid (HKA.out.trans hkd)
  have HC1 := Lib.hid (kept_cell hkd c1 (fun h => h))
  simp only [World.drewN_drewN] at HT2 HK2 HC1
  clear c0 c1 c2 c3 hkd HT HGA HKA
  go_wp2_with fail
  generalize W1.drewN (n0 + n1) = W2 at *
  refine HT2.out.mono ?_
  rintro e w2 ⟨rfl, hk2⟩
  have hc2 := kept_cell hk2 HC1.out (fun h => h)
  have HK3 := Lib.hid (HK2.out.trans hk2)
  clear hk2 HT2
  go_wp2_with fail
  refine Halt.mk ⟨.inr hc2, ?_⟩
  repeat (quiet_step (fail))
  refine wpQuiet_nil ?_
  rintro _ ⟨n2, rfl⟩
  have hkd : Kept NoBlock w2 (w2.drewN n2) := (Kept.refl NoBlock w2).drewN n2
  have hc3 := kept_cell hkd hc2 (fun h => h)
  obtain ⟨v, W, hcv, hown, hkW⟩ := conv_str (w2.drewN n2) _ _ HX.out HLL.out
  have hc4 := kept_cell hkW hc3 (fun h => h)
  have HO0 := hown
  have hkk := HK3.out.trans hkd
  have HO := Lib.hid (OwnM.lower hown (by have := hkk.size; have := HB.out; omega))
  have HK := Lib.hid (hkk.trans hkW)
  clear hown hkW hkd hkk HO0 hc2 hc3
  generalize w2.drewN n2 = w3 at *
  go_wp2_with fail
  refine Halt.mk ⟨.inr hc4, ?_⟩
  repeat (quiet_step (fail))
  refine wpQuiet_nil ?_
  rintro _ ⟨n3, rfl⟩
  have HO2 := Lib.hid (OwnM.kept HO.out ((Kept.refl NoBlock W).drewN n3))
  have HK9 := Lib.hid (HK.out.drewN n3)
  generalize W.drewN n3 = W9 at *
  go_wp2_with fail
  go_ret
  exact ⟨_, rfl, HO2.out, HK9.out⟩
set_option maxRecDepth 100000 in
set_option maxHeartbeats 1600000 in
theorem rbytes_nil (m : RepM) (hk : m.k = 5 ∨ m.k = 7) (w : World) (hl : (bytesR m.rep).length ≤ 1000000000) :
    Calls Tryd.prog 26 #[repA m] w (BytEnd w (bytesR m.rep)) := by
  have hka := Kept.allocd w (.cells #[.int .i64 m.k, strV m.s, .int .i64 m.n, m.v] 26)
  rcases hk with hk | hk
  · skip
    have he : bytesR m.rep = [36, 45, 49, 13, 10] := by rw [bytes_eq, if_neg (by omega), if_neg (by omega), if_neg (by omega), if_neg (by omega), if_pos hk]
    rw [he]
    rw [hk] at hka
    have hcv := Joins.run_convert_bytes_const_at (P := Tryd.prog) (w.alloc (.cells #[.int .i64 5, strV m.s, .int .i64 m.n, m.v] 26)) 22 5 #[.int .u8 36, .int .u8 45, .int .u8 49, .int .u8 13, .int .u8 10] 5 5 (w.heap.size + 1) (by simp) Tryd.underlying22 Tryd.underlying5
    have hown : OwnT ((w.alloc (.cells #[.int .i64 5, strV m.s, .int .i64 m.n, m.v] 26)).alloc (.cells #[.int .u8 36, .int .u8 45, .int .u8 49, .int .u8 13, .int .u8 10] 5 (5, 6))) (w.alloc (.cells #[.int .i64 5, strV m.s, .int .i64 m.n, m.v] 26)).heap.size (.slice (some ⟨(w.alloc (.cells #[.int .i64 5, strV m.s, .int .i64 m.n, m.v] 26)).heap.size, 0, none⟩) 5 5) [36, 45, 49, 13, 10] := const_own (w.alloc (.cells #[.int .i64 5, strV m.s, .int .i64 m.n, m.v] 26)) 5 [.int .u8 36, .int .u8 45, .int .u8 49, .int .u8 13, .int .u8 10] (by decide)
    rw [World.size_alloc] at hown
    have HO := Lib.hid (OwnM.lower hown (b := w.heap.size) (by omega))
    have HK := Lib.hid (hka.trans (Kept.allocd (w.alloc (.cells #[.int .i64 5, strV m.s, .int .i64 m.n, m.v] 26)) (.cells #[.int .u8 36, .int .u8 45, .int .u8 49, .int .u8 13, .int .u8 10] 5 (5, 6))))
    unfold repA
    rw [hk]
    clear he hown hka hl
    go_enter Tryd.func26, Tryd.ntmps26
    go_wp2_with fail
    go_ret
    exact ⟨_, rfl, HO.out, HK.out⟩
  · skip
    have he : bytesR m.rep = [42, 45, 49, 13, 10] := by rw [bytes_eq, if_neg (by omega), if_neg (by omega), if_neg (by omega), if_neg (by omega), if_neg (by omega), if_pos hk]
    rw [he]
    rw [hk] at hka
    have hcv := Joins.run_convert_bytes_const_at (P := Tryd.prog) (w.alloc (.cells #[.int .i64 7, strV m.s, .int .i64 m.n, m.v] 26)) 22 5 #[.int .u8 42, .int .u8 45, .int .u8 49, .int .u8 13, .int .u8 10] 5 5 (w.heap.size + 1) (by simp) Tryd.underlying22 Tryd.underlying5
    have hown : OwnT ((w.alloc (.cells #[.int .i64 7, strV m.s, .int .i64 m.n, m.v] 26)).alloc (.cells #[.int .u8 42, .int .u8 45, .int .u8 49, .int .u8 13, .int .u8 10] 5 (5, 6))) (w.alloc (.cells #[.int .i64 7, strV m.s, .int .i64 m.n, m.v] 26)).heap.size (.slice (some ⟨(w.alloc (.cells #[.int .i64 7, strV m.s, .int .i64 m.n, m.v] 26)).heap.size, 0, none⟩) 5 5) [42, 45, 49, 13, 10] := const_own (w.alloc (.cells #[.int .i64 7, strV m.s, .int .i64 m.n, m.v] 26)) 5 [.int .u8 42, .int .u8 45, .int .u8 49, .int .u8 13, .int .u8 10] (by decide)
    rw [World.size_alloc] at hown
    have HO := Lib.hid (OwnM.lower hown (b := w.heap.size) (by omega))
    have HK := Lib.hid (hka.trans (Kept.allocd (w.alloc (.cells #[.int .i64 7, strV m.s, .int .i64 m.n, m.v] 26)) (.cells #[.int .u8 42, .int .u8 45, .int .u8 49, .int .u8 13, .int .u8 10] 5 (5, 6))))
    unfold repA
    rw [hk]
    clear he hown hka hl
    go_enter Tryd.func26, Tryd.ntmps26
    go_wp2_with fail
    go_ret
    exact ⟨_, rfl, HO.out, HK.out⟩

def RB (m : RepM) : Prop := ∀ (P : Nat → Prop) (w : World), GoodM w P m → FitM m → (bytesR m.rep).length ≤ 1000000000 →
  Calls Tryd.prog 26 #[repA m] w (BytEnd w (bytesR m.rep))
/-- The world in the document's loop. -/
structure BrW (w : World) (m : RepM) (v : Value) (y : Bs) (wr : World) : Prop where
  k : Kept NoBlock w wr
  b0 : wr.heap[w.heap.size]? = some (.cells #[.int .i64 m.k, strV m.s, .int .i64 m.n, m.v] 26 (0, 0))
  own : OwnT wr (w.heap.size + 1) v y
theorem BrW.kept {w : World} {m : RepM} {v : Value} {y : Bs} {wr w' : World} (h : BrW w m v y wr) (hk : Kept NoBlock wr w') : BrW w m v y w' := ⟨h.k.trans hk, hk.heap h.b0 (fun h => h), OwnM.kept h.own hk⟩
theorem BrW.app {w : World} {m : RepM} {v v' : Value} {y y' : Bs} {wr w' : World} (h : BrW w m v y wr) (hg : wr.grownBy w' v.ownBlock) (ho : OwnT w' (w.heap.size + 1) v' y') : BrW w m v' y' w' := by
  have hl := OwnM.lt h.own
  have hk : Kept (fun k => w.heap.size + 1 ≤ k) wr w' := Kept.grown (Kept.refl _ wr) hg (fun k e _ => (hl k e).1)
  exact ⟨Kept.trans' h.k hk (fun i hi e => by omega), hk.heap h.b0 (by omega), ho⟩
set_option maxRecDepth 100000 in
set_option maxHeartbeats 1600000 in
theorem rbytes_arr (m : RepM) (ih : ∀ x ∈ m.l, RB x) (hk : ¬ m.k = 1 ∧ ¬ m.k = 2 ∧ ¬ m.k = 3 ∧ ¬ m.k = 4 ∧ ¬ m.k = 5 ∧ ¬ m.k = 7) (P : Nat → Prop) (w : World) (hg : GoodM w P m) (hf : FitM m) (hl : (bytesR m.rep).length ≤ 1000000000) :
    Calls Tryd.prog 26 #[repA m] w (BytEnd w (bytesR m.rep)) := by
  have hka := Kept.allocd w (.cells #[.int .i64 m.k, strV m.s, .int .i64 m.n, m.v] 26)
  have hga := heap_alloc_new w (.cells #[.int .i64 m.k, strV m.s, .int .i64 m.n, m.v] 26)
  obtain ⟨k1, k2, k3, k4, k5, k7⟩ := hk
  have he : bytesR m.rep = 42 :: (Lib.itoa m.l.length ++ ([13, 10] ++ bytesM m.l)) := by rw [bytes_eq, if_neg k1, if_neg k2, if_neg k3, if_neg k4, if_neg k5, if_neg k7]
  rw [he] at hl ⊢
  have hll := hf.l
  obtain ⟨apl, capl, hv, hcl, _⟩ := hg.row.parts
  obtain ⟨N, hN⟩ : ∃ N, N = m.l.length := ⟨_, rfl⟩
  rw [← hN] at hv hl hll hcl ⊢
  have hT := rText (N : Int) (by omega) (by omega)
  obtain ⟨D, hD⟩ : ∃ D : ByteArray, D = ⟨(Lib.itoa (N : Int)).toArray⟩ := ⟨_, rfl⟩
  have hDz := str_size hD
  have hX : (⟨#[42]⟩ : ByteArray) ++ D ++ ⟨#[13, 10]⟩ = ⟨(42 :: (Lib.itoa (N : Int) ++ [13, 10])).toArray⟩ := by
    rw [hD]
    have h1 := str_app [42] (Lib.itoa (N : Int))
    have h2 := str_app ([42] ++ Lib.itoa (N : Int)) [13, 10]
    rw [h1, h2]
    simp
  have hs9 : D.size ≤ 1000000000 := by simp at hl; omega
  have q1 : ¬ (9223372036854775807 < (1 : Nat) + D.size) := by omega
  have q2 : ¬ (9223372036854775807 < (1 : Nat) + D.size + 2) := by omega
  obtain ⟨hd, hhd⟩ : ∃ hd, hd = 42 :: (Lib.itoa (N : Int) ++ [13, 10]) := ⟨_, rfl⟩
  have hout : 42 :: (Lib.itoa (N : Int) ++ ([13, 10] ++ bytesM m.l)) = hd ++ bytesM m.l := by rw [hhd]; simp
  rw [hout] at hl ⊢
  rw [← hhd] at hX
  have HX := Lib.hid hX
  have HLL := Lib.hid hl
  have HG := Lib.hid hg
  have HFM := Lib.hid hf
  have HN := Lib.hid hN
  have HIH := Lib.hid ih
  unfold strV at hT
  rw [← hD] at hT
  have HT := Lib.hid hT
  have HKA := Lib.hid hka
  have HGA := Lib.hid hga
  obtain ⟨e0, e1, e2, e3⟩ := blk4 hga
  unfold repA
  rw [hv] at HKA HGA e0 e1 e2 e3 ⊢
  have HVV := Lib.hid hv
  clear hv
  obtain ⟨kk, hkk⟩ : ∃ kk, kk = m.k := ⟨_, rfl⟩
  rw [← hkk] at k1 k2 k3 k4 k5 k7 HKA HGA e0 e1 e2 e3 ⊢
  have HKK := Lib.hid hkk
  clear hkk he hl hX hka hga hDz hf hD hT hg hN ih hout hhd
  go_enter Tryd.func26, Tryd.ntmps26
  go_wp2_with fail
  clear e0 e1 e2 e3
  refine (HT.out _).mono ?_
  rintro e w1 ⟨rfl, hk1⟩
  obtain ⟨v, W, hcv, hown, hkW⟩ := conv_str w1 _ _ HX.out (by have := HLL.out; rw [List.length_append] at this; omega)
  have hkk1 := HKA.out.trans hk1
  have HB0 : Hid (BrW w m v hd W) := Lib.hid ⟨hkk1.trans hkW, by rw [← HKK.out, HVV.out]; exact hkW.heap (hk1.heap HGA.out (fun h => h)) (fun h => h), OwnM.lower hown (by have := hk1.size; rw [World.size_alloc] at this; exact this)⟩
  clear hown hkW hk1 hkk1 HT HKA HGA
  go_wp2_with fail
  go_loopw [3, 4] (fun vb vi wr => ∃ i : Nat, vi = .int .i64 i ∧ i ≤ N ∧ BrW w m vb (hd ++ bytesM (m.l.take i)) wr) (fun _ vi _ => N - (intOf vi).toNat)
  case atStart => exact ⟨0, rfl, Nat.zero_le _, by rw [List.take_zero, bytesM_nil, List.append_nil]; exact HB0.out⟩
  case round =>
    obtain ⟨i, rfl, hi, hr⟩ := hrel
    have HR := Lib.hid hr
    have hb0 := hr.b0
    rw [← HKK.out, HVV.out] at hb0
    obtain ⟨e0, e1, e2, e3⟩ := blk4 hb0
    clear hr hb0 hcv
    by_cases hlt : i < N
    · obtain ⟨a, ha⟩ : ∃ a, m.l[i]? = some a := ⟨m.l[i]'(by have := HN.out; omega), List.getElem?_eq_getElem _⟩
      have ham := List.mem_of_getElem? ha
      have hrow := HG.out.row.kept HR.out.k
      rw [HVV.out] at hrow
      obtain ⟨ad, rfl, a0, a1, a2, a3⟩ := rep_at hrow ha
      have hnx := bytesM_next ha
      have hle := bytesM_le m.l (i + 1)
      rw [hnx] at hle
      have hcall := HIH.out a ham P wr ((HG.out.subs a ham).keptN HR.out.k) (HFM.out.subs a ham) (by
        have := HLL.out
        simp only [List.length_append] at *
        omega)
      have hbound : (hd ++ bytesM (m.l.take i)).length + (bytesR a.rep).length ≤ 1000000000 := by
        have := HLL.out
        simp only [List.length_append] at *
        omega
      have HBO := Lib.hid hbound
      have HCALL := Lib.hid hcall
      have HNX := Lib.hid hnx
      unfold repA at HCALL
      clear ha ham hrow hnx hle hcall hbound
      go_wp2_with fail
      refine HCALL.out.mono ?_
      rintro e w3 ⟨v3, rfl, ho3, hk3⟩
      have HR3 := Lib.hid (HR.out.kept hk3)
      have HB3 := Lib.hid ho3.bytes
      clear ho3 hk3 HCALL HR e0 e1 e2 e3 a0 a1 a2 a3
      have hsz3 : w.heap.size + 1 ≤ w3.heap.size := by have := lt_of_heap HR3.out.b0; omega
      go_wp2_with (at_builtin; refine wpList_appL rfl _ _ (by rfl) (w.heap.size + 1) _ (hd ++ bytesM (m.l.take i)) (by rfl) HR3.out.own _ _ (by rfl) HB3.out HBO.out hsz3 ?_; intro v4 w4 ho4 hg4; refine Hid.out ?_)
      have HR4 := Lib.hid (HR3.out.app hg4 ho4)
      clear ho4 hg4
      refine Lib.hid ?_
      go_wp2_with fail
      go_roundw
      case rel => exact ⟨i + 1, by go_num, by omega, by rw [HNX.out, ← List.append_assoc]; exact HR4.out⟩
      case measure => simp [intOf]; omega
    · obtain rfl : i = N := by omega
      have hr := HR.out
      rw [List.take_of_length_le (by have := HN.out; omega)] at hr
      have H9 := Lib.hid (OwnM.lower hr.own (b := w.heap.size) (by omega))
      have HW := Lib.hid hr.k
      clear hr HR
      go_wp2_with fail
      go_ret
      exact ⟨_, rfl, H9.out, HW.out⟩
theorem rbytes : ∀ m, RB m := by
  refine RepM.ind ?_
  intro m ih P w hg hf hl
  by_cases h1 : m.k = 1 ∨ m.k = 2
  · exact rbytes_text m h1 w hl
  by_cases h2 : m.k = 3
  · exact rbytes_int m h2 hf w hl
  by_cases h3 : m.k = 4
  · exact rbytes_bulk m h3 hf w hl
  by_cases h4 : m.k = 5 ∨ m.k = 7
  · exact rbytes_nil m h4 w hl
  · exact rbytes_arr m ih (by omega) P w hg hf hl
end Go.Proofs.YtpekeilpdbdnnaaDoor
namespace Go.Proofs.YtpekeilpdbdnnaaDoor
open Go.RowKit
attribute [local go_sem] fold_part fold_some fold_some' partAt_zero

def leafs (L : List Bs) : List RepM := L.map fun s => leafM 4 s 0
theorem leafs_next {L : List Bs} {i : Nat} {s : Bs} (h : L[i]? = some s) : leafs (L.take (i + 1)) = leafs (L.take i) ++ [leafM 4 s 0] := by
  unfold leafs
  rw [List.take_add_one, h, List.map_append]
  rfl
def shortS (s : Bs) : Bool := decide (s.length ≤ 65536)
/-- A request's bytes, and what is wrong. -/
def cmdB (L : List Bs) : Bs × Int := if L.length = 0 ∨ 1024 < L.length then ([], 3) else if L.all shortS then (bytesR (.mk 6 [] 0 ((leafs L).map RepM.rep)), 0) else ([], 2)
def CmdEnd (w : World) (L : List Bs) (e : Ending) (w' : World) : Prop := Kept NoBlock w w' ∧ ∃ v, e = .returned (.tuple #[v, .int .i64 (cmdB L).2]) ∧ OwnT w' w.heap.size v (cmdB L).1

theorem all_next {α : Type} {p : α → Bool} {xs : List α} {i : Nat} {a : α} (h : (xs.take i).all p = true) (ha : xs[i]? = some a) (hp : p a = true) : (xs.take (i + 1)).all p = true := by
  rw [List.take_add_one, ha, List.all_append, h]
  simpa using hp
theorem all_not {α : Type} {p : α → Bool} {xs : List α} {i : Nat} {a : α} (ha : xs[i]? = some a) (hp : p a = false) : xs.all p = false := by
  rw [List.all_eq_false]
  exact ⟨a, List.mem_of_getElem? ha, by rw [hp]; decide⟩
theorem itoa_nat_len (u : Nat) : (Lib.itoa (u : Int)).length ≤ u + 1 := by rw [Lib.itoa_nonneg]; exact decDigits_len u
theorem bulk_len (s : Bs) : (bytesR (leafM 4 s 0).rep).length ≤ 2 * s.length + 6 := by
  rw [bytes_eq, if_neg (by show ¬ (4 : Int) = 1; decide), if_neg (by show ¬ (4 : Int) = 2; decide), if_neg (by show ¬ (4 : Int) = 3; decide), if_pos (by show (4 : Int) = 4; decide)]
  have := itoa_nat_len s.length
  show (36 :: (Lib.itoa s.length ++ ([13, 10] ++ (s ++ [13, 10])))).length ≤ _
  simp only [List.length_cons, List.length_append, List.length_nil]
  omega
theorem leafs_len : ∀ (L : List Bs), L.all shortS = true → (bytesM (leafs L)).length ≤ 131078 * L.length
  | [], _ => by simp [leafs, bytesM_nil]
  | s :: L, h => by
    rw [List.all_cons, Bool.and_eq_true] at h
    have h1 := leafs_len L h.2
    have h2 := of_decide_eq_true h.1
    have h3 := bulk_len s
    have : bytesM (leafs (s :: L)) = bytesR (leafM 4 s 0).rep ++ bytesM (leafs L) := by
      unfold leafs bytesM
      rw [List.map_cons, List.map_cons, bytesL]
    rw [this, List.length_append, List.length_cons]
    omega
theorem cmd_len {L : List Bs} (v : Value) (h : L.all shortS = true) (hl : L.length ≤ 1024) : (bytesR (RepM.mk 6 [] 0 v (leafs L)).rep).length ≤ 1000000000 := by
  rw [bytes_eq, if_neg (by show ¬ (6 : Int) = 1; decide), if_neg (by show ¬ (6 : Int) = 2; decide), if_neg (by show ¬ (6 : Int) = 3; decide), if_neg (by show ¬ (6 : Int) = 4; decide), if_neg (by show ¬ (6 : Int) = 5; decide), if_neg (by show ¬ (6 : Int) = 7; decide)]
  have h1 := leafs_len L h
  have h2 : (Lib.itoa ((leafs L).length : Int)).length ≤ 1025 := by
    have := itoa_nat_len (leafs L).length
    have : (leafs L).length = L.length := List.length_map _
    omega
  show (42 :: (Lib.itoa (leafs L).length ++ ([13, 10] ++ bytesM (leafs L)))).length ≤ _
  simp only [List.length_cons, List.length_append, List.length_nil]
  omega

/-- The world in the loop over the words. -/
structure CmW (w : World) (L : List Bs) (vX : Value) (wr : World) : Prop where
  k : Kept NoBlock w wr
  box : wr.heap[w.heap.size]? = some (.cells #[.int .i64 6, .string ⟨#[]⟩, .int .i64 0, vX] 26 (0, 0))
  own : OwnK 4 26 rCells wr (w.heap.size + 1) vX (leafs L)
theorem CmW.kept {w : World} {L : List Bs} {vX : Value} {wr w' : World} (h : CmW w L vX wr) (hk : Kept NoBlock wr w') : CmW w L vX w' := ⟨h.k.trans hk, hk.heap h.box (fun h => h), h.own.kept hk⟩
theorem CmW.cell {w : World} {L : List Bs} {vX : Value} {wr : World} (h : CmW w L vX wr) : wr.cell? ⟨w.heap.size, 3, none⟩ = some vX ∧ wr.frozen? ⟨w.heap.size, 3, none⟩ = false := ⟨cellB h.box rfl, frozenB h.box 3⟩
theorem CmW.grow {w : World} {L L' : List Bs} {vX vX' : Value} {wr w' : World} (h : CmW w L vX wr) (hg : wr.grownBy w' vX.ownBlock) (ho : OwnK 4 26 rCells w' (w.heap.size + 1) vX' (leafs L')) :
    CmW w L' vX' (w'.setCell ⟨w.heap.size, 3, none⟩ vX') ∧ w'.cell? ⟨w.heap.size, 3, none⟩ = some vX ∧ w'.frozen? ⟨w.heap.size, 3, none⟩ = false := by
  have hlt := h.own.lt
  have hk1 : Kept (fun j => w.heap.size + 1 ≤ j) wr w' := Kept.grown (Kept.refl _ wr) hg (fun j e _ => (hlt j e).1)
  have hk2 := kept_set w' w.heap.size 3 vX'
  have h5 := hk1.heap h.box (by omega)
  refine ⟨⟨Kept.trans' (Kept.trans' h.k hk1 (fun i hi e => by omega)) hk2 (fun i hi e => by omega), ?_, ho.keptS hk2 (fun i hi _ e => by omega)⟩, cellB h5 rfl, frozenB h5 3⟩
  rw [heap_setCell_same h5 3 vX']
  simp
theorem CmW.start (w : World) : CmW w [] (.slice none 0 0) (w.alloc (.cells #[.int .i64 6, .string ⟨#[]⟩, .int .i64 0, .slice none 0 0] 26)) := ⟨Kept.allocd w _, heap_alloc_new w _, OwnK.nil _ _⟩
theorem leafs_good (w : World) (P : Nat → Prop) (L : List Bs) : ∀ x ∈ leafs L, GoodM w P x := by
  intro x hx
  obtain ⟨s, _, rfl⟩ := List.mem_map.1 hx
  exact leafM_good _ _ _ _ _
theorem CmW.good {w : World} {L : List Bs} {vX : Value} {wr : World} (h : CmW w L vX wr) : GoodM wr AnyB (.mk 6 [] 0 vX (leafs L)) :=
  .mk _ (OwnK.row rCells_len (by decide) h.own) (fun _ _ _ => trivial) (leafs_good _ _ L)
theorem leafs_fit {L : List Bs} (v : Value) (h : L.all shortS = true) (hl : L.length ≤ 1024) : FitM (.mk 6 [] 0 v (leafs L)) := by
  refine .mk _ (by show (-9223372036854775808 : Int) ≤ 0; decide) (by show (0 : Int) ≤ 9223372036854775807; decide) (by simp [RepM.s]) (by show (leafs L).length ≤ _; unfold leafs; rw [List.length_map]; omega) (fun x hx => ?_)
  obtain ⟨s, hs, rfl⟩ := List.mem_map.1 (show x ∈ leafs L from hx)
  have := of_decide_eq_true (List.all_eq_true.1 h s hs)
  exact fit_leaf _ _ _ (by decide) (by decide) (by omega)
theorem row_map {L : List Bs} {i : Nat} {a : Bs} (h : L[i]? = some a) : (L.map strV)[i]? = some (strV a) := by rw [List.getElem?_map, h]; rfl

set_option maxRecDepth 100000 in
set_option maxHeartbeats 3200000 in
theorem pCommand (b : Nat) (v : Value) (L : List Bs) (w : World) (hV : VsB w b) (h : RowV w v (L.map strV)) (hn : L.length ≤ 1000000) :
    Calls Tryd.prog 14 #[v] w (CmdEnd w L) := by
  obtain ⟨ap, cap, rfl, hcp, _⟩ := h.parts
  rw [List.length_map] at hcp ⊢
  unfold CmdEnd
  generalize hM : cmdB L = M
  have HM := Lib.hid hM
  unfold cmdB at HM
  obtain ⟨n, hnn⟩ : ∃ n, n = L.length := ⟨_, rfl⟩
  rw [List.length_map] at h
  rw [← hnn] at hn hcp h HM ⊢
  have HN := Lib.hid hnn
  have HV := Lib.hid hV
  have HROW := Lib.hid h
  clear hM hnn hV h
  by_cases h0 : n = 0
  · have hm := HM.out
    rw [if_pos (.inl h0)] at hm
    subst hm
    clear HM
    subst h0
    go_enter Tryd.func14, Tryd.ntmps14
    go_wp2_with fail
    go_ret2
    exact ⟨Kept.refl _ _, _, rfl, OwnT.nil _ _⟩
  have hn0b : ((n : Int) == 0) = false := by rw [natb]; exact decide_eq_false h0
  by_cases h1 : 1024 < n
  · have hm := HM.out
    rw [if_pos (.inr h1)] at hm
    subst hm
    clear HM
    go_enter Tryd.func14, Tryd.ntmps14
    go_wp2_with fail
    go_ret2
    exact ⟨Kept.refl _ _, _, rfl, OwnT.nil _ _⟩
  have hm := HM.out
  rw [if_neg (by omega)] at hm
  have HM2 := Lib.hid hm
  have hn1 : n ≤ 1024 := by omega
  have hd1 : decide ((1024 : Int) < (n : Int)) = false := decide_eq_false (by omega)
  have HST := Lib.hid (CmW.start w)
  have HWZ := Lib.hid (show w.heap.size = w.heap.size from rfl)
  clear HM hm
  go_enter Tryd.func14, Tryd.ntmps14
  go_wp2_with fail
  go_loopw [18] (fun v18 wr => ∃ (i : Nat) (vX : Value), v18 = .int .i64 i ∧ i ≤ n ∧ (L.take i).all shortS = true ∧ CmW w (L.take i) vX wr) (fun v18 _ => n - (intOf v18).toNat)
  case atStart => exact ⟨0, _, rfl, Nat.zero_le _, rfl, HST.out⟩
  case round =>
    obtain ⟨i, vX, rfl, hi, ha, hw⟩ := hrel
    have HA := Lib.hid ha
    have HW := Lib.hid hw
    clear ha hw HST
    by_cases hlt : i < n
    · have hil : i < L.length := by have := HN.out; omega
      obtain ⟨s, hs⟩ : ∃ a, L[i]? = some a := ⟨L[i], List.getElem?_eq_getElem hil⟩
      obtain ⟨ad, rfl, a0⟩ := RowV.cell (RowV.keptNo HROW.out HW.out.k) (row_map hs)
      obtain ⟨S, hS⟩ : ∃ S : ByteArray, S = ⟨s.toArray⟩ := ⟨_, rfl⟩
      have hSz := str_size hS
      unfold strV at a0
      rw [← hS] at a0
      by_cases hsh : S.size ≤ 65536
      · have hnx := leafs_next hs
        have han := all_next HA.out hs (show shortS s = true from decide_eq_true (by omega))
        have HNX := Lib.hid hnx
        have HAN := Lib.hid han
        have HSS := Lib.hid hS
        obtain ⟨c3, f3⟩ := HW.out.cell
        have hll : (leafs (L.take i)).length = i := by unfold leafs; rw [List.length_map, List.length_take]; omega
        obtain ⟨apX, capX, rfl⟩ := OwnK.form rCells_len (by decide) HW.out.own
        rw [hll] at c3 HW
        have hka := Kept.allocd wr (.cells #[.int .i64 4, .string S, .int .i64 0, .slice none 0 0] 26)
        have hga := heap_alloc_new wr (.cells #[.int .i64 4, .string S, .int .i64 0, .slice none 0 0] 26)
        have HWA := Lib.hid (HW.out.kept hka)
        have HGA := Lib.hid hga
        clear hs hnx han hS hSz hka hga hil
        go_wp2_with (at_builtin; refine wpList_appK rfl _ _ 24 (by rfl) Tryd.underlying24 _ 56 repInfo rfl (by decide) (by decide) rCells_len (w.heap.size + 1) (.slice apX i capX) (leafs (L.take i)) (by rfl) HWA.out.own wr.heap.size (leafM 4 s 0) #[.int .i64 4, .string S, .int .i64 0, .slice none 0 0] (0, 0) (by rfl) HGA.out (by unfold rCells leafM strV; rw [HSS.out]; rfl) (rCells_one _ rfl) (by omega) (by have := lt_of_heap HWA.out.box; omega) ?_; intro v' w' hown hgr; refine Hid.out ?_)
        rw [← HNX.out] at hown
        obtain ⟨apY, capY, rfl⟩ := OwnK.form rCells_len (by decide) hown
        obtain ⟨hcm, hc9, hf9⟩ := CmW.grow HWA.out hgr hown
        have HCM := Lib.hid hcm
        generalize (leafs (L.take (i + 1))).length = q at *
        clear hown hgr hcm c3 f3 HWA HGA
        refine Lib.hid ?_
        go_wp2_with fail
        go_roundw
        case rel => exact ⟨i + 1, _, by go_num, by omega, HAN.out, HCM.out⟩
        case measure => simp [intOf]; omega
      · have hno := all_not hs (show shortS s = false from decide_eq_false (by omega))
        have hm := HM2.out
        rw [hno] at hm
        simp only [Bool.false_eq_true, if_false] at hm
        subst hm
        clear hs hno hS hSz hil
        go_wp2_with fail
        go_ret2
        exact ⟨HW.out.k, _, rfl, OwnT.nil _ _⟩
    · obtain rfl : i = n := by omega
      have htk : L.take i = L := List.take_of_length_le (by have := HN.out; omega)
      have hal := HA.out
      rw [htk] at hal HW
      have hm := HM2.out
      rw [if_pos hal] at hm
      subst hm
      have hsz := HW.out.k.size
      have hwr := pwrite (.mk 6 [] 0 vX (leafs L)) wr.heap.size (.slice none 0 0) [] wr (OwnZ.nil _ _) (HV.out.kept HW.out.k).now HW.out.good.safe (leafs_fit vX hal (by have := HN.out; omega)) (by have := cmd_len vX hal (by have := HN.out; omega); simpa using this)
      obtain ⟨c0, c1, c2, c3⟩ := blk4 HW.out.box
      obtain ⟨apX, capX, rfl⟩ := OwnK.form rCells_len (by decide) HW.out.own
      unfold repA strV at hwr
      simp only [RepM.k, RepM.s, RepM.n, RepM.v] at hwr
      have HWR := Lib.hid hwr
      clear hwr hal htk HM2
      go_wp2_with fail
      refine HWR.out.mono ?_
      rintro e w3 ⟨v3, rfl, ho3, hk3⟩
      have HK3 := Lib.hid (HW.out.k.trans hk3.no)
      have HO3 := Lib.hid (OwnM.lower ho3.t hsz)
      clear ho3 hk3 c0 c1 c2 c3
      go_wp2_with fail
      go_ret2
      refine ⟨HK3.out, _, rfl, ?_⟩
      have := HO3.out
      rw [List.nil_append, RepM.rep, repsM_map] at this
      exact this
end Go.Proofs.YtpekeilpdbdnnaaDoor
namespace Go.Proofs.YtpekeilpdbdnnaaDoor
open Go.RowKit
attribute [local go_sem] fold_part fold_some fold_some' partAt_zero

set_option maxRecDepth 100000 in
set_option maxHeartbeats 3200000 in
theorem rCommand (v : Value) (L : List Bs) (w : World) (h : RowV w v (L.map strV)) (hn : L.length ≤ 1000000) :
    Calls Tryd.prog 15 #[v] w (CmdEnd w L) := by
  obtain ⟨ap, cap, rfl, hcp, _⟩ := h.parts
  rw [List.length_map] at hcp ⊢
  unfold CmdEnd
  generalize hM : cmdB L = M
  have HM := Lib.hid hM
  unfold cmdB at HM
  obtain ⟨n, hnn⟩ : ∃ n, n = L.length := ⟨_, rfl⟩
  rw [List.length_map] at h
  rw [← hnn] at hn hcp h HM ⊢
  have HN := Lib.hid hnn
  have HROW := Lib.hid h
  clear hM hnn h
  by_cases h0 : n = 0
  · have hm := HM.out
    rw [if_pos (.inl h0)] at hm
    subst hm
    clear HM
    subst h0
    go_enter Tryd.func15, Tryd.ntmps15
    go_wp2_with fail
    go_ret2
    exact ⟨Kept.refl _ _, _, rfl, OwnT.nil _ _⟩
  have hn0b : ((n : Int) == 0) = false := by rw [natb]; exact decide_eq_false h0
  by_cases h1 : 1024 < n
  · have hm := HM.out
    rw [if_pos (.inr h1)] at hm
    subst hm
    clear HM
    go_enter Tryd.func15, Tryd.ntmps15
    go_wp2_with fail
    go_ret2
    exact ⟨Kept.refl _ _, _, rfl, OwnT.nil _ _⟩
  have hm := HM.out
  rw [if_neg (by omega)] at hm
  have HM2 := Lib.hid hm
  have hn1 : n ≤ 1024 := by omega
  have hd1 : decide ((1024 : Int) < (n : Int)) = false := decide_eq_false (by omega)
  have HST := Lib.hid (CmW.start w)
  clear HM hm
  go_enter Tryd.func15, Tryd.ntmps15
  go_wp2_with fail
  go_loopw [5] (fun v5 wr => ∃ (i : Nat) (vX : Value), v5 = .int .i64 i ∧ i ≤ n ∧ (L.take i).all shortS = true ∧ CmW w (L.take i) vX wr) (fun v5 _ => n - (intOf v5).toNat)
  case atStart => exact ⟨0, _, rfl, Nat.zero_le _, rfl, HST.out⟩
  case round =>
    obtain ⟨i, vX, rfl, hi, ha, hw⟩ := hrel
    have HA := Lib.hid ha
    have HW := Lib.hid hw
    clear ha hw HST
    by_cases hlt : i < n
    · have hil : i < L.length := by have := HN.out; omega
      obtain ⟨s, hs⟩ : ∃ a, L[i]? = some a := ⟨L[i], List.getElem?_eq_getElem hil⟩
      obtain ⟨ad, rfl, a0⟩ := RowV.cell (RowV.keptNo HROW.out HW.out.k) (row_map hs)
      obtain ⟨S, hS⟩ : ∃ S : ByteArray, S = ⟨s.toArray⟩ := ⟨_, rfl⟩
      have hSz := str_size hS
      unfold strV at a0
      rw [← hS] at a0
      by_cases hsh : S.size ≤ 65536
      · have hnx := leafs_next hs
        have han := all_next HA.out hs (show shortS s = true from decide_eq_true (by omega))
        have HNX := Lib.hid hnx
        have HAN := Lib.hid han
        have HSS := Lib.hid hS
        obtain ⟨c3, f3⟩ := HW.out.cell
        have hll : (leafs (L.take i)).length = i := by unfold leafs; rw [List.length_map, List.length_take]; omega
        have HLL := Lib.hid hll
        clear hs hnx han hS hSz hil hll
        go_wp2_with fail
        refine wp_planC (fun W => W.cell? ⟨w.heap.size, 3, none⟩ = some vX) 10 [.flt 0, .flt 1, .seg [2, 3, 4, 5] 6, .seg [] 7, .seg [] 8, .seg [9] 10] [] (by kernel_rfl) (by kernel_rfl) (fun _ _ _ dst _ h => by cases dst <;> exact h) (fun _ _ h => h) c3 (fun n0 => ?_)
        repeat (refine planC_flt rfl rfl ?_; apply Exists.intro; refine ⟨fun w' hw' => ?_, ?_⟩; (go_simp; first | rfl | exact ⟨rfl, rfl⟩); simp only [Act.put, List.setIfInBounds_toArray, List.set_cons_succ, List.set_cons_zero])
        simp only [wpPlanC, pick, List.filterMap_cons, List.filterMap_nil, List.getElem?_cons_succ, List.getElem?_cons_zero]
        repeat (quiet_step (fail))
        refine wpQuiet_nil ?_
        rintro _ ⟨n1, rfl⟩
        have hkd : Kept NoBlock wr ((wr.drewN n0).drewN n1) := ((Kept.refl NoBlock wr).drewN n0).drewN n1
        have HW1 := Lib.hid (HW.out.kept hkd)
        generalize (wr.drewN n0).drewN n1 = w1 at *
        clear hkd c3 f3
        go_wp2_with fail
        refine Halt.mk ⟨.inr HW1.out.cell.1, ?_⟩
        have hka := Kept.allocd w1 (.cells #[.int .i64 4, .string S, .int .i64 0, .slice none 0 0] 26)
        have hga := heap_alloc_new w1 (.cells #[.int .i64 4, .string S, .int .i64 0, .slice none 0 0] 26)
        have HWA := Lib.hid (HW1.out.kept hka)
        have HGA := Lib.hid hga
        clear hka hga
        go_wp2_with fail
        refine Halt.mk ⟨.inr HWA.out.cell.1, ?_⟩
        refine wpList_appK rfl _ _ 24 (by rfl) Tryd.underlying24 _ 56 repInfo rfl (by decide) (by decide) rCells_len (w.heap.size + 1) vX (leafs (L.take i)) (by rfl) HWA.out.own w1.heap.size (leafM 4 s 0) #[.int .i64 4, .string S, .int .i64 0, .slice none 0 0] (0, 0) (by rfl) HGA.out (by unfold rCells leafM strV; rw [HSS.out]; rfl) (rCells_one _ rfl) (by have := HLL.out; omega) (by have := lt_of_heap HWA.out.box; omega) ?_
        intro v' w' hown hgr
        rw [← HNX.out] at hown
        obtain ⟨apY, capY, rfl⟩ := OwnK.form rCells_len (by decide) hown
        obtain ⟨hcm, hc9, hf9⟩ := CmW.grow HWA.out hgr hown
        have HCM := Lib.hid hcm
        generalize (leafs (L.take (i + 1))).length = q at *
        clear hown hgr hcm
        go_wp2_with fail
        refine Halt.mk ⟨.inr hc9, ?_⟩
        repeat (quiet_step (fail))
        refine wpQuiet_nil ?_
        rintro _ ⟨n2, rfl⟩
        have HW9 := Lib.hid (show CmW w (L.take (i + 1)) (.slice apY q capY) ((w'.drewN n2).setCell ⟨w.heap.size, 3, none⟩ (.slice apY q capY)) from HCM.out.kept ((Kept.refl NoBlock _).drewN n2))
        go_wp2_with fail
        refine Halt.mk ⟨.inl trivial, ?_⟩
        clear hc9 hf9 HCM
        go_wp2_with fail
        go_roundw
        case rel => exact ⟨i + 1, _, by go_num, by omega, HAN.out, HW9.out⟩
        case measure => simp [intOf]; omega
      · have hno := all_not hs (show shortS s = false from decide_eq_false (by omega))
        have hm := HM2.out
        rw [hno] at hm
        simp only [Bool.false_eq_true, if_false] at hm
        subst hm
        clear hs hno hS hSz hil
        go_wp2_with fail
        go_ret2
        exact ⟨HW.out.k, _, rfl, OwnT.nil _ _⟩
    · obtain rfl : i = n := by omega
      have htk : L.take i = L := List.take_of_length_le (by have := HN.out; omega)
      have hal := HA.out
      rw [htk] at hal HW
      have hm := HM2.out
      rw [if_pos hal] at hm
      subst hm
      have hsz := HW.out.k.size
      have hwr := rbytes (.mk 6 [] 0 vX (leafs L)) AnyB wr HW.out.good (leafs_fit vX hal (by have := HN.out; omega)) (cmd_len vX hal (by have := HN.out; omega))
      obtain ⟨c0, c1, c2, c3⟩ := blk4 HW.out.box
      obtain ⟨apX, capX, rfl⟩ := OwnK.form rCells_len (by decide) HW.out.own
      unfold repA strV at hwr
      simp only [RepM.k, RepM.s, RepM.n, RepM.v] at hwr
      have HWR := Lib.hid hwr
      clear hwr hal htk HM2
      go_wp2_with fail
      refine HWR.out.mono ?_
      rintro e w3 ⟨v3, rfl, ho3, hk3⟩
      have HK3 := Lib.hid (HW.out.k.trans hk3)
      have HO3 := Lib.hid (OwnM.lower ho3 hsz)
      clear ho3 hk3 c0 c1 c2 c3
      go_wp2_with fail
      go_ret2
      refine ⟨HK3.out, _, rfl, ?_⟩
      have := HO3.out
      rw [RepM.rep, repsM_map] at this
      exact this
end Go.Proofs.YtpekeilpdbdnnaaDoor

/- The ID of a text: plain lists, and the program's reading. -/
import Derived.Test.YtlaahdjdlekopaaRt1
import Derived.Test.YtlaahdjdlekopaaShelf
import Derived.LoopNIn
namespace Go.Proofs.Ytlaahdjdlekopaa
open Go.RowKit

/-- Which digit a byte is; 16: none. -/
def ix (c : UInt8) : Nat := hexD.findIdx (· == c)
theorem ix_all : ∀ n : Fin 256, ix (UInt8.ofNat n.val) ≤ 16 ∧ Lib.indexByte hexD (UInt8.ofNat n.val) = (if ix (UInt8.ofNat n.val) = 16 then -1 else (ix (UInt8.ofNat n.val) : Int)) := by decide +kernel
theorem ix_spec (c : UInt8) : ix c ≤ 16 ∧ Lib.indexByte hexD c = (if ix c = 16 then -1 else (ix c : Int)) := by
  have := ix_all ⟨c.toNat, c.toNat_lt⟩
  simpa using this
theorem ix_hex : ∀ d : Fin 16, ix (hexD.getD d.val 0) = d.val := by decide +kernel

def readD (n : Nat) : List UInt8 → Option Nat
  | [] => some n
  | c :: r => if ix c = 16 then none else readD (n * 16 + ix c) r
def readR (o : Option Nat) : Nat × Int := match o with | some n => if n = 0 then (0, 192) else (n, 0) | none => (0, 192)
def readV (l : List UInt8) : Nat × Int := if l.length = 16 then readR (readD 0 l) else (0, 192)

theorem readD_step {l : List UInt8} {n j : Nat} {t : Option Nat} (h : t = readD n (l.drop j)) (hj : j < l.length) : t = if ix l[j] = 16 then none else readD (n * 16 + ix l[j]) (l.drop (j + 1)) := by
  rw [h, List.drop_eq_getElem_cons hj]; rfl

theorem byte_at (D : ByteArray) (j : Nat) (h : j < D.size) : ∃ hl : j < D.data.toList.length, (D[j]'h) = D.data.toList[j] := ⟨by rw [Array.length_toList]; exact h, rfl⟩

theorem or_low (n k : Nat) (hk : k < 16) : (n * 16) ||| k = n * 16 + k := by
  have := Nat.shiftLeft_add_eq_or_of_lt (a := n) (b := k) (i := 4) (by omega)
  rw [Nat.shiftLeft_eq, show (2 : Nat) ^ 4 = 16 from rfl] at this
  exact this.symm

set_option maxHeartbeats 3200000 in
theorem rread (s : ByteArray) (w : World) (hs : s.size ≤ 1000) : Calls Try.prog 23 #[.string s] w fun e w' => e = .returned (.tuple #[.int .u64 (readV s.data.toList).1, .int .i64 (readV s.data.toList).2]) ∧ w = w' := by
  have hLs : s.data.toList.length = s.size := Array.length_toList
  by_cases h16 : s.size = 16
  · have hv : readV s.data.toList = readR (readD 0 s.data.toList) := by unfold readV; rw [if_pos (by omega)]
    have HV := Lib.hid hv
    have h16' : (s.size : Int) = 16 := by omega
    have h16b : ((s.size : Int) == 16) = true := by rw [beq_iff_eq]; omega
    clear hv
    go_enter Try.func23, Try.ntmps23
    go_wp2
    go_loopw [4, 12] (fun vn vi wr => ∃ (j n : Nat), j ≤ 16 ∧ vn = .int .u64 n ∧ vi = .int .i64 j ∧ n < 16 ^ j ∧ readD 0 s.data.toList = readD n (s.data.toList.drop j) ∧ w = wr) (fun _ vi _ => 16 - (intOf vi).toNat)
    case atStart => exact ⟨0, 0, by omega, rfl, rfl, by decide, rfl, rfl⟩
    case round =>
      obtain ⟨j, n, hj, rfl, rfl, hn, htr, rfl⟩ := hrel
      by_cases hlt : j < 16
      · have hjs : j < s.size := by omega
        obtain ⟨hjl, hbyte⟩ := byte_at s j hjs
        have hst := readD_step htr hjl
        rw [← hbyte] at hst
        have hix := ix_spec (s[j]'hjs)
        have hC := Try.strings_IndexByte ⟨#[48, 49, 50, 51, 52, 53, 54, 55, 56, 57, 97, 98, 99, 100, 101, 102]⟩ ((s[j]'hjs).toNat : Int) w
        have e1 : (((s[j]'hjs).toNat : Int).toNat).toUInt8 = s[j]'hjs := by simp
        have e2 : (⟨#[48, 49, 50, 51, 52, 53, 54, 55, 56, 57, 97, 98, 99, 100, 101, 102]⟩ : ByteArray).data.toList = hexD := rfl
        rw [e1, e2, hix.2] at hC
        obtain ⟨x, hx⟩ : ∃ x, (s[j]'hjs).toNat = x := ⟨_, rfl⟩
        obtain ⟨k, hk⟩ : ∃ k, k = ix (s[j]'hjs) := ⟨_, rfl⟩
        rw [← hk] at hst hC
        rw [hx] at hC
        have hk16 : k ≤ 16 := by rw [hk]; exact hix.1
        clear e1 e2 hix hk hbyte hjl htr
        by_cases hk0 : k = 16
        · have hno : readV s.data.toList = (0, 192) := by rw [HV.out, hst, if_pos hk0]; rfl
          have HNO := Lib.hid hno
          rw [if_pos hk0] at hC
          clear hno hst hk0 hk16
          go_wp2_with (go_at_call 36; refine hC.mono ?_; rintro e w1 ⟨rfl, rfl⟩)
          go_ret2
          exact ⟨(by rw [HNO.out]; rfl), rfl⟩
        · rw [if_neg hk0] at hC hst
          have hbound : n < 1152921504606846976 := by
            have h1 : (16 : Nat) ^ j ≤ 16 ^ 15 := Nat.pow_le_pow_right (by omega) (by omega)
            have h2 : (16 : Nat) ^ 15 = 1152921504606846976 := by decide
            omega
          have hpow : n * 16 + k < 16 ^ (j + 1) := by rw [Nat.pow_succ]; omega
          have hor : bits .or .u64 ((n : Int) * 16) (k : Int) = ((n * 16 + k : Nat) : Int) := by
            rw [show (n : Int) * 16 = ((n * 16 : Nat) : Int) by simp, u64_or_nat _ _ (by omega) (by omega), or_low n k (by omega)]
          obtain ⟨n', hn'⟩ : ∃ n', n' = n * 16 + k := ⟨_, rfl⟩
          rw [← hn'] at hor hst hpow
          have HST := Lib.hid hst
          have HPW := Lib.hid hpow
          clear hst hpow hn hn'
          go_wp2_with (go_at_call 36; refine hC.mono ?_; rintro e w1 ⟨rfl, rfl⟩)
          go_roundw
          case rel => exact ⟨j + 1, n', by omega, rfl, by go_num, HPW.out, HST.out, trivial⟩
          case measure => simp [intOf]; omega
      · have hend : readV s.data.toList = readR (some n) := by
          rw [HV.out, htr, List.drop_of_length_le (by omega)]; rfl
        have hj16 : j = 16 := by omega
        have hjI : (j : Int) = 16 := by omega
        by_cases hn0 : n = 0
        · have HE := Lib.hid (show readV s.data.toList = (0, 192) by rw [hend, hn0]; rfl)
          have hnb : ((n : Int) == 0) = true := by rw [beq_iff_eq]; omega
          clear hend htr hn hn0 hj16
          go_wp2
          go_ret2
          exact ⟨(by rw [HE.out]; rfl), rfl⟩
        · have HE := Lib.hid (show readV s.data.toList = (n, 0) by rw [hend]; unfold readR; simp [hn0])
          have hnb : ((n : Int) == 0) = false := by rw [beq_eq_false_iff_ne]; omega
          clear hend htr hn hn0 hj16
          go_wp2
          go_ret2
          exact ⟨(by rw [HE.out]; rfl), rfl⟩
  · have HE := Lib.hid (show readV s.data.toList = (0, 192) by unfold readV; rw [if_neg (by omega)])
    have h16b : ((s.size : Int) == 16) = false := by rw [beq_eq_false_iff_ne]; omega
    have h16c : ¬ ((s.size : Int) = 16) := by omega
    go_enter Try.func23, Try.ntmps23
    go_wp2
    go_ret2
    exact ⟨(by rw [HE.out]; rfl), rfl⟩
end Go.Proofs.Ytlaahdjdlekopaa

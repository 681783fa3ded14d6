/- The document's text of an ID, and its ID of a text. -/
import Derived.Test.YtlaahdjdlekopaaRd1
namespace Go.Proofs.Ytlaahdjdlekopaa
open Go.RowKit

theorem hexV_fin : ∀ d : Fin 16, ((⟨#[48, 49, 50, 51, 52, 53, 54, 55, 56, 57, 97, 98, 99, 100, 101, 102]⟩ : ByteArray)[d.val]'(d.isLt)).toNat = (hexD.getD d.val 0).toNat := by decide
theorem hexV (n i d : Nat) (hd16 : d < 16) (hD : d = n / 2 ^ (60 - 4 * i) % 16) : (Value.int .u8 (((⟨#[48, 49, 50, 51, 52, 53, 54, 55, 56, 57, 97, 98, 99, 100, 101, 102]⟩ : ByteArray)[d]'hd16).toNat : Int)) = bv (hexAt n i) := by
  have e : hexAt n i = hexD.getD d 0 := by rw [hexAt, ← hD]
  have h := hexV_fin ⟨d, hd16⟩
  rw [e]
  unfold bv
  exact congrArg (fun x : Nat => Value.int .u8 (x : Int)) h

/-- The digits from the k-th last on. -/
def tailCells (n k : Nat) : List Value := List.replicate (16 - k) (Value.int .u8 0) ++ ((List.range' (16 - k) k).map fun i => bv (hexAt n i))

theorem tailCells_length (n k : Nat) (hk : k ≤ 16) : (tailCells n k).length = 16 := by simp [tailCells]; omega
theorem tailCells_step (n k : Nat) (hk : k < 16) : (tailCells n k).set (15 - k) (bv (hexAt n (15 - k))) = tailCells n (k + 1) := by
  unfold tailCells
  rw [show 16 - k = (15 - k) + 1 by omega, List.replicate_succ', List.append_assoc, List.set_append_right _ _ (by simp), List.length_replicate, Nat.sub_self,
    show 16 - (k + 1) = 15 - k by omega, List.range'_succ]
  rfl

set_option maxHeartbeats 3200000 in
theorem rrtext (n : Nat) (w : World) (hn : n < 18446744073709551616) : Calls Try.prog 26 #[.int .u64 n] w fun e w' => e = .returned (.string ⟨(hexL n 16).toArray⟩) ∧ Kept NoBlock w w' := by
  obtain ⟨i0, hi, hz0, hz1, hz2⟩ := info_parts binfo
  go_enter Try.func26, Try.ntmps26
  go_wp2_with (refine wpList_make_full _ rfl (.const (.int .i64 16)) (.const (.int .i64 16)) 22 rfl w.heap.size 5 i0 (.int .u8 0) 1 Try.underlying22 hi hz0 hz1 _ _ _ _ 16 rfl rfl (by omega) (by omega) (by rw [hz2]; omega) (by unfold maxLen; omega) (Nat.le_refl _) ?_; intro w2 hown2 hgr2; have hk2 : Kept NoBlock w w2 := (Kept.refl NoBlock w).grown hgr2 (fun _ h => by cases h); rw [madeBytes] at hown2; have hg2 := owned_row hown2; clear hown2 hgr2)
  have hg2' : w2.heap[w.heap.size]? = some (.cells (tailCells n 0).toArray 5 (0, 0)) := by rw [hg2]; rfl
  clear hg2
  go_loopw [0, 4] (fun vn vi wr => ∃ (k m : Nat), k ≤ 16 ∧ vn = .int .u64 m ∧ vi = .int .i64 (15 - (k : Int)) ∧ m = n / 16 ^ k ∧ wr.heap[w.heap.size]? = some (.cells (tailCells n k).toArray 5 (0, 0)) ∧ Kept NoBlock w wr) (fun _ vi _ => (intOf vi + 1).toNat)
  case atStart => exact ⟨0, n, by omega, rfl, rfl, by simp, hg2', hk2⟩
  case round =>
    obtain ⟨k, m, hk, rfl, rfl, hm, hb, hK⟩ := hrel
    clear hg2' hk2
    by_cases hlt : k < 16
    · obtain ⟨i, hi'⟩ : ∃ i, i = 15 - k := ⟨_, rfl⟩
      have hiI : 15 - (k : Int) = (i : Int) := by omega
      obtain ⟨d, hd⟩ : ∃ d, d = m % 16 := ⟨_, rfl⟩
      obtain ⟨q, hq⟩ : ∃ q, q = m / 16 := ⟨_, rfl⟩
      have hd16 : d < 16 := by omega
      have h1 : (m : Int).tmod 16 = (d : Int) := by rw [hd]; rfl
      have h2 : (m : Int).tdiv 16 = (q : Int) := by rw [hq]; rfl
      have hmn : m ≤ n := by rw [hm]; exact Nat.div_le_self _ _
      have hqn : q ≤ n := by omega
      have hdd : d = n / 2 ^ (60 - 4 * i) % 16 := by
        rw [hd, hm]
        congr 2
        rw [show (16 : Nat) = 2 ^ 4 from rfl, ← Nat.pow_mul]
        congr 1; omega
      have hqq : q = n / 16 ^ (k + 1) := by rw [hq, hm, Nat.div_div_eq_div_mul, ← Nat.pow_succ]
      have hsz : i < (tailCells n k).length := by rw [tailCells_length n k hk]; omega
      have hc : ∃ v, wr.cell? ⟨w.heap.size, i, none⟩ = some v := ⟨_, cellB hb (by rw [List.getElem?_toArray]; exact List.getElem?_eq_getElem hsz)⟩
      clear hsz
      obtain ⟨vold, hc⟩ := hc
      have hf := frozenB hb i
      have hi15 : i ≤ 15 := by omega
      have HB := Lib.hid hb
      have HD := Lib.hid hdd
      have HQ := Lib.hid hqq
      have HI := Lib.hid hi'
      clear hb hdd hqq hd hq hm hi'
      have hqw : IntKind.u64.wrap (q : Int) = q := IntWalk.u64_in _ (by omega)
      go_wp2
      go_roundw
      case rel =>
        refine ⟨k + 1, q, by omega, rfl, by go_num, HQ.out, ?_, hK.setCell (p := ⟨w.heap.size, i, none⟩) (fun h => absurd h (by simp)) _⟩
        rw [hexV n i d hd16 HD.out, heap_setCell_same HB.out]
        congr 2
        rw [List.setIfInBounds_toArray, HI.out, tailCells_step n k hlt]
      case measure =>
        have := HI.out
        simp [intOf]; omega
    · obtain rfl : k = 16 := by omega
      have hh : Holds wr (some ⟨w.heap.size, 0, none⟩) 16 ((hexL n 16).map bv) := by
        refine ⟨by simp [hexL], fun _ => ⟨_, rfl, fun j v hj => ?_⟩⟩
        rw [addr_add, Nat.zero_add]
        refine cellB hb ?_
        rw [List.getElem?_toArray]
        have e : tailCells n 16 = (hexL n 16).map bv := by
          simp [tailCells, hexL, List.range_eq_range']
        rw [e]; exact hj
      have hconv := conv_bytes (P := Try.prog) wr 22 9 5 Try.underlying22 Try.underlying5 Try.underlying9 16 hh
      clear hb hh hm
      go_wp2
      go_ret
      exact ⟨rfl, hK⟩

theorem hexN_fin : ∀ d : Fin 16, ∀ (h : d.val < (⟨#[48, 49, 50, 51, 52, 53, 54, 55, 56, 57, 97, 98, 99, 100, 101, 102]⟩ : ByteArray).size), ((⟨#[48, 49, 50, 51, 52, 53, 54, 55, 56, 57, 97, 98, 99, 100, 101, 102]⟩ : ByteArray)[d.val]'h) = hexD.getD d.val 0 := by decide
theorem ix_lt (c : UInt8) (k : Nat) (h : ∀ i, i < k → hexD.getD i 0 ≠ c) (hk : k ≤ 16) : k ≤ ix c := by
  unfold ix
  rcases Nat.lt_or_ge (hexD.findIdx (· == c)) k with hl | hl
  · exfalso
    have hlen : hexD.findIdx (· == c) < hexD.length := by have : hexD.length = 16 := rfl; omega
    have := List.findIdx_getElem (w := hlen)
    simp only [beq_iff_eq] at this
    refine h _ hl ?_
    rw [List.getD_eq_getElem?_getD, List.getElem?_eq_getElem hlen]
    exact this
  · exact hl
theorem ix_eq (c : UInt8) (k : Nat) (h : ∀ i, i < k → hexD.getD i 0 ≠ c) (hk : k < 16) (hc : hexD.getD k 0 = c) : ix c = k := by
  have h1 := ix_lt c k h (by omega)
  have h2 := ix_hex ⟨k, hk⟩
  simp only [hc] at h2
  exact h2

set_option maxHeartbeats 3200000 in
theorem rrread (s : ByteArray) (w : World) (hs : s.size ≤ 1000) : Calls Try.prog 24 #[.string s] w fun e w' => e = .returned (.tuple #[.int .u64 (readV s.data.toList).1, .int .i64 (readV s.data.toList).2]) ∧ Kept NoBlock w w' := by
  have hLs : s.data.toList.length = s.size := Array.length_toList
  by_cases h16 : s.size = 16
  · have hv : readV s.data.toList = readR (readD 0 s.data.toList) := by unfold readV; rw [if_pos (by omega)]
    have HV := Lib.hid hv
    have h16' : (s.size : Int) = 16 := by omega
    have h16b : ((s.size : Int) == 16) = true := by rw [beq_iff_eq]; omega
    clear hv
    go_enter Try.func24, Try.ntmps24
    go_wp2
    go_loopw [4, 5] (fun vn vi wr => ∃ (j n : Nat), j ≤ 16 ∧ vn = .int .u64 n ∧ vi = .int .i64 j ∧ n < 16 ^ j ∧ readD 0 s.data.toList = readD n (s.data.toList.drop j) ∧ Kept NoBlock w wr) (fun _ vi _ => 16 - (intOf vi).toNat)
    case atStart => exact ⟨0, 0, by omega, rfl, rfl, by decide, rfl, Kept.refl _ _⟩
    case round =>
      obtain ⟨j, n, hj, rfl, rfl, hn, htr, hK⟩ := hrel
      by_cases hlt : j < 16
      · have hjs : j < s.size := by omega
        obtain ⟨hjl, hbyte⟩ := byte_at s j hjs
        have hst := readD_step htr hjl
        rw [← hbyte] at hst
        obtain ⟨c, hc⟩ : ∃ c, c = s[j]'hjs := ⟨_, rfl⟩
        rw [← hc] at hst
        obtain ⟨x, hx⟩ : ∃ x, (s[j]'hjs).toNat = x := ⟨_, rfl⟩
        have hcx : c.toNat = x := by rw [hc]; exact hx
        have HST := Lib.hid hst
        have HN := Lib.hid hn
        have HCX := Lib.hid hcx
        clear hst htr hbyte hjl hc hn hcx
        go_wp2
        go_loopw [6] (fun vk wq => ∃ k : Nat, k ≤ 16 ∧ vk = .int .i64 k ∧ (∀ i, i < k → hexD.getD i 0 ≠ c) ∧ Kept NoBlock wr wq) (fun vk _ => 16 - (intOf vk).toNat)
        case atStart => exact ⟨0, by omega, rfl, fun i h => by omega, Kept.refl _ _⟩
        case round =>
          obtain ⟨k, hk, rfl, hno, hK2⟩ := hrel
          have hw2 := hK.trans hK2
          have HNO := Lib.hid hno
          clear hno
          by_cases hk16 : k < 16
          · obtain ⟨y, hy⟩ : ∃ y, ((⟨#[48, 49, 50, 51, 52, 53, 54, 55, 56, 57, 97, 98, 99, 100, 101, 102]⟩ : ByteArray)[k]'hk16).toNat = y := ⟨_, rfl⟩
            have hyd : (hexD.getD k 0).toNat = y := by rw [← hy]; exact (hexV_fin ⟨k, hk16⟩).symm
            have HYD := Lib.hid hyd
            have hkI : (k : Int) < 16 := by omega
            have hkJ : (j : Int) < 16 := by omega
            clear hyd
            by_cases hyx : y = x
            · have hb : ((y : Int) != (x : Int)) = false := by rw [bne_eq_false_iff_eq]; omega
              have hb2 : ((y : Int) == (x : Int)) = true := by rw [beq_iff_eq]; omega
              have hkc : ix c = k := ix_eq c k HNO.out hk16 (UInt8.toNat_inj.1 (by rw [HYD.out, HCX.out]; exact hyx))
              have hst := HST.out
              rw [hkc, if_neg (by omega)] at hst
              have hbound : n < 1152921504606846976 := by
                have h1 : (16 : Nat) ^ j ≤ 16 ^ 15 := Nat.pow_le_pow_right (by omega) (by omega)
                have h2 : (16 : Nat) ^ 15 = 1152921504606846976 := by decide
                have := HN.out
                omega
              have hpow : n * 16 + k < 16 ^ (j + 1) := by have := HN.out; rw [Nat.pow_succ]; omega
              obtain ⟨n', hn'⟩ : ∃ n', n' = n * 16 + k := ⟨_, rfl⟩
              rw [← hn'] at hst hpow
              have hk16b : ((k : Int) == 16) = false := by rw [beq_eq_false_iff_ne]; omega
              have hsum : (n : Int) * 16 + (k : Int) = (n' : Int) := by omega
              have hn'b : n' < 18446744073709551616 := by omega
              have HST2 := Lib.hid hst
              have HPW := Lib.hid hpow
              clear hst hpow hkc hyx hn'
              go_wp2_with fail
              go_quiet (fail)
              go_wp2
              go_roundw
              case rel => exact ⟨j + 1, n', by omega, rfl, by go_num, HPW.out, HST2.out, hw2.drewN _⟩
              case measure => simp [intOf]; omega
            · have hb : ((y : Int) != (x : Int)) = true := by rw [bne_iff_ne]; omega
              have hb2 : ((y : Int) == (x : Int)) = false := by rw [beq_eq_false_iff_ne]; omega
              have hnext : ∀ i, i < k + 1 → hexD.getD i 0 ≠ c := by
                intro i hi he
                rcases Nat.lt_or_ge i k with h | h
                · exact HNO.out i h he
                · obtain rfl : i = k := by omega
                  exact hyx (by rw [← HYD.out, he, HCX.out])
              have HNX := Lib.hid hnext
              clear hnext hyx
              go_wp2_with fail
              go_quiet (fail)
              go_wp2
              go_roundw
              case rel => exact ⟨k + 1, by omega, by go_num, HNX.out, hK2.drewN _⟩
              case measure => simp [intOf]; omega
          · have hk16b : ((k : Int) == 16) = true := by rw [beq_iff_eq]; omega
            have hk16e : (k : Int) = 16 := by omega
            have hkc : ix c = 16 := by
              have := ix_lt c k HNO.out hk
              have := (ix_spec c).1
              omega
            have hno2 : readV s.data.toList = (0, 192) := by rw [HV.out, HST.out, if_pos hkc]; rfl
            have HE := Lib.hid hno2
            clear hno2 hkc
            go_wp2_with fail
            go_quiet (fail)
            go_wp2
            go_ret2
            exact ⟨(by rw [HE.out]; rfl), hw2.drewN _⟩
      · have hend : readV s.data.toList = readR (some n) := by
          rw [HV.out, htr, List.drop_of_length_le (by omega)]; rfl
        have hjI : (j : Int) = 16 := by omega
        by_cases hn0 : n = 0
        · have HE := Lib.hid (show readV s.data.toList = (0, 192) by rw [hend, hn0]; rfl)
          have hnb : ((n : Int) == 0) = true := by rw [beq_iff_eq]; omega
          clear hend htr hn hn0
          go_wp2
          go_ret2
          exact ⟨(by rw [HE.out]; rfl), hK⟩
        · have HE := Lib.hid (show readV s.data.toList = (n, 0) by rw [hend]; unfold readR; simp [hn0])
          have hnb : ((n : Int) == 0) = false := by rw [beq_eq_false_iff_ne]; omega
          clear hend htr hn hn0
          go_wp2
          go_ret2
          exact ⟨(by rw [HE.out]; rfl), hK⟩
  · have HE := Lib.hid (show readV s.data.toList = (0, 192) by unfold readV; rw [if_neg (by omega)])
    have h16b : ((s.size : Int) == 16) = false := by rw [beq_eq_false_iff_ne]; omega
    have h16c : ¬ ((s.size : Int) = 16) := by omega
    go_enter Try.func24, Try.ntmps24
    go_wp2
    go_ret2
    exact ⟨(by rw [HE.out]; rfl), Kept.refl _ _⟩
end Go.Proofs.Ytlaahdjdlekopaa

/- The text of an ID. -/
import Derived.Test.YtlaahdjdlekopaaRg1
import Derived.Laws.BitsAllLaws
namespace Go.Proofs.Ytlaahdjdlekopaa
open Go.RowKit

def hexD : List UInt8 := [48, 49, 50, 51, 52, 53, 54, 55, 56, 57, 97, 98, 99, 100, 101, 102]
/-- The i-th digit of an ID, the first one first. -/
def hexAt (n : Nat) (i : Nat) : UInt8 := hexD.getD (n / 2 ^ (60 - 4 * i) % 16) 0
def hexL (n : Nat) (k : Nat) : List UInt8 := (List.range k).map (hexAt n)

set_option maxHeartbeats 1600000 in
theorem rtext (n : Nat) (w : World) (hn : n < 18446744073709551616) :
    Calls Try.prog 25 #[.int .u64 n] w fun e w' => e = .returned (.string ⟨(hexL n 16).toArray⟩) ∧ Kept NoBlock w w' := by
  go_enter Try.func25, Try.ntmps25
  go_wp2
  go_loopw [5] (fun i wr => ∃ k : Nat, k ≤ 16 ∧ i = .int .i64 k ∧ wr.heap[w.heap.size]? = some (.cells ((hexL n k).map bv ++ List.replicate (16 - k) (Value.int .u8 0)).toArray 77 (0, 0)) ∧ Kept NoBlock w wr) (fun i _ => 16 - (intOf i).toNat)
  case atStart => exact ⟨0, by omega, rfl, by rw [heap_alloc_same]; rfl, (Kept.refl _ _).alloc _⟩
  case round =>
    obtain ⟨k, hk, rfl, hb, hK⟩ := hrel
    have hlen : (hexL n k).length = k := by simp [hexL]
    by_cases hlt : k < 16
    · have HB := Lib.hid hb
      have hc : wr.cell? ⟨w.heap.size, k, none⟩ = some (.int .u8 0) := cellB hb (by
        rw [List.getElem?_toArray, List.getElem?_append_right (by rw [List.length_map, hlen]; exact Nat.le_refl _), List.length_map, hlen, Nat.sub_self, List.getElem?_replicate, if_pos (by omega)])
      have hf := frozenB hb k
      obtain ⟨d, hd⟩ : ∃ d, d = n / 2 ^ (60 - 4 * k) % 16 := ⟨_, rfl⟩
      have hd16 : d < 16 := by rw [hd]; exact Nat.mod_lt _ (by omega)
      have hbits : bits .and .u64 ((n : Int) / 2 ^ (60 - 4 * k)) 15 = d := by
        have e : (n : Int) / 2 ^ (60 - 4 * k) = ((n / 2 ^ (60 - 4 * k) : Nat) : Int) := by simp
        rw [e, show (15 : Int) = ((15 : Nat) : Int) from rfl, u64_and_nat _ _ (Nat.lt_of_le_of_lt (Nat.div_le_self _ _) hn) (by omega), hd]
        congr 1
        exact Nat.and_two_pow_sub_one_eq_mod _ 4
      have HD := Lib.hid hd
      have HL := Lib.hid hlen
      clear hb hd hlen
      go_wp2
      go_roundw
      case rel =>
        refine ⟨k + 1, by omega, by go_num, ?_, hK.setCell (p := ⟨w.heap.size, k, none⟩) (fun h => absurd h (by simp)) _⟩
        have hv : (Value.int .u8 (((⟨#[48, 49, 50, 51, 52, 53, 54, 55, 56, 57, 97, 98, 99, 100, 101, 102]⟩ : ByteArray)[d]'hd16).toNat : Int)) = bv (hexAt n k) := by
          have e : hexAt n k = hexD.getD d 0 := by rw [hexAt, ← HD.out]
          rw [e]
          match d, hd16 with
          | 0, _ => rfl | 1, _ => rfl | 2, _ => rfl | 3, _ => rfl | 4, _ => rfl | 5, _ => rfl | 6, _ => rfl | 7, _ => rfl
          | 8, _ => rfl | 9, _ => rfl | 10, _ => rfl | 11, _ => rfl | 12, _ => rfl | 13, _ => rfl | 14, _ => rfl | 15, _ => rfl
        rw [hv, heap_setCell_same HB.out]
        have hl' : ((hexL n k).map bv).length = k := by rw [List.length_map]; exact HL.out
        congr 2
        rw [List.setIfInBounds_toArray, List.set_append_right _ _ (by omega), hl', Nat.sub_self, show 16 - k = (16 - (k + 1)) + 1 by omega, List.replicate_succ, List.set_cons_zero]
        simp [hexL, List.range_succ]
      case measure => simp [intOf]; omega
    · obtain rfl : k = 16 := by omega
      have hh : Holds wr (some ⟨w.heap.size, 0, none⟩) 16 ((hexL n 16).map bv) := by
        refine ⟨by rw [List.length_map]; exact hlen, fun _ => ⟨_, rfl, fun j v hj => ?_⟩⟩
        rw [addr_add, Nat.zero_add]
        refine cellB hb ?_
        rw [List.getElem?_toArray]
        simpa using hj
      have hconv := conv_bytes (P := Try.prog) wr 22 9 5 Try.underlying22 Try.underlying5 Try.underlying9 16 hh
      have HC := Lib.hid hlen
      clear hlen hb hh
      go_wp2
      go_ret
      exact ⟨rfl, hK⟩
end Go.Proofs.Ytlaahdjdlekopaa

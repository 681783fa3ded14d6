/- The law's first question: a ring of four bytes. -/
import Derived.Test.YtlaahdjdlekopaaRg6
import Derived.Test.YtlaahdjdlekopaaRt1
import Derived.Test.YtlaahdjdlekopaaAppend
import Derived.Lib.SlBytesConst
namespace Go.Proofs.Ytlaahdjdlekopaa
open Go.RowKit

theorem holds_mark (w : World) (T : TypeId) (fz : Nat × Nat) (xs : List Value) : Holds (w.alloc (.cells xs.toArray T fz)) (some ⟨w.heap.size, 0, none⟩) xs.length xs := by
  refine ⟨rfl, fun _ => ⟨_, rfl, fun j v hj => ?_⟩⟩
  rw [addr_add, Nat.zero_add]
  exact cellB (heap_alloc_new w _) (by simpa using hj)

set_option maxHeartbeats 1600000 in
theorem alive_true (w : World) : Calls Try.prog 10 #[] w fun e w' => e = .returned (.bool true) ∧ Kept NoBlock w w' := by
  have kc := fun (w : World) (C : Array Value) (n c : Nat) => Lib.run_convert_bytes_const (P := Try.prog) w 22 5 C n c Try.underlying22 Try.underlying5
  go_enter Try.func10, Try.ntmps10
  go_wp2_with fail
  refine (rnew 4 7 w (by omega) (by omega) (by omega)).mono ?_
  rintro e w1 ⟨rfl, hR1, hk1⟩
  have hR1' : Rg w1 w.heap.size none ⟨7, 0, 0, 0, 0, 4, []⟩ := hR1
  have hg1 : w.heap.size < w1.heap.size := hR1'.lt
  clear hR1
  go_wp2_with fail
  refine (rfeed w.heap.size none _ (some ⟨w1.heap.size, 0, none⟩) 6 6 [97, 98, 99, 100, 101, 102] _ (hR1'.keptNo (Kept.allocd _ _)) (holds_mark w1 5 (6, 7) (([97, 98, 99, 100, 101, 102] : List UInt8).map bv)) (by omega) (fun h => by cases h) (fun ad h _ => by cases h; exact ⟨by simp only; omega, fun h => by cases h⟩) (by simp)).mono ?_
  rintro e w2 ⟨rfl, R2, hR2', hR2, hk2⟩
  have hR2'' : Rg w2 w.heap.size R2 ⟨7, 6, 0, 0, 2, 4, [99, 100, 101, 102]⟩ := hR2
  clear hR2
  go_wp2_with fail
  refine (rfrom_in w.heap.size R2 _ 1 3 w2 hR2'' (by simp) (by rfl)).mono ?_
  rintro e w3 ⟨ap, cap, rfl, hd3, hb3, _, _, hk3⟩
  have hd3' : Holds w3 ap 3 (([100, 101, 102] : List UInt8).map bv) := hd3
  have hR3 := hR2''.keptNo hk3
  go_wp2_with fail
  refine (rfrom_out w.heap.size R2 _ 1 w3 hR3 (.inl (by simp))).mono ?_
  rintro e w4 ⟨rfl, rfl⟩
  go_wp2_with fail
  refine (rfork w.heap.size R2 _ 8 w3 hR3 (by omega) (by simp)).mono ?_
  rintro e w5 ⟨rfl, hR5, hk5⟩
  have hR5' : Rg w5 w.heap.size R2 ⟨8, 6, 7, 6, 2, 4, [99, 100, 101, 102]⟩ := hR5
  clear hR5
  go_wp2_with fail
  refine (rfeed w.heap.size R2 _ (some ⟨w5.heap.size, 0, none⟩) 1 1 [103] _ (hR5'.keptNo (Kept.allocd _ _)) (holds_mark w5 5 (1, 2) (([103] : List UInt8).map bv)) (by omega) (fun h => by cases h) (fun ad h _ => by cases h; exact ⟨by have := hR5'.lt; simp only; omega, fun h => by have := (hR5'.ring h).1; simp only at this; omega⟩) (by simp)).mono ?_
  rintro e w6 ⟨rfl, R6, hR6', hR6, hk6⟩
  have hR6'' : Rg w6 w.heap.size R6 ⟨8, 7, 7, 6, 3, 4, [100, 101, 102, 103]⟩ := hR6
  clear hR6
  have hs1 : (w1.alloc (.cells #[.int .u8 97, .int .u8 98, .int .u8 99, .int .u8 100, .int .u8 101, .int .u8 102] 5 (6, 7))).heap.size ≤ w2.heap.size := hk2.size
  have hs1' : w1.heap.size + 1 ≤ w2.heap.size := by simpa using hs1
  have hbl : ∀ ad, ap = some ad → ad.block = w2.heap.size := fun ad h => (hb3 ad h).1
  have hd5 := hd3'.kept hk5 (fun ad h h2 => by have := hbl ad h; have h3 : ad.block = w.heap.size := h2; omega)
  have hd5' := hd5.kept (Kept.allocd w5 (.cells #[.int .u8 103] 5 (1, 2))) (fun _ _ h => h)
  have hRr : ∀ k, R2 = some k → w.heap.size < k ∧ k < w2.heap.size := fun k h => by
    refine ⟨?_, (hR2''.ring h).1⟩
    rcases hR2' with e | ⟨r, e, hr⟩
    · rw [h] at e; cases e
    · rw [h] at e; cases e
      have hr' : w1.heap.size + 1 ≤ k := by rw [World.size_alloc] at hr; exact hr
      omega
  have hd6 : Holds w6 ap 3 (([100, 101, 102] : List UInt8).map bv) := hd5'.kept hk6 (fun ad h h2 => by
    have h1 := hbl ad h
    rcases h2 with h2 | h2
    · omega
    · have := (hRr _ h2).2; omega)
  have hK6 : Kept NoBlock w w6 := by
    have a1 : Kept NoBlock w w2 := ((hk1.alloc _).trans' hk2 (fun i hi h => by
      rcases h with h | h
      · omega
      · cases h))
    have a2 : Kept NoBlock w w5 := (a1.trans hk3).trans' hk5 (fun i hi h => by omega)
    exact (a2.alloc _).trans' hk6 (fun i hi h => by
      rcases h with h | h
      · omega
      · have := (hRr _ h).1; omega)
  have hconv := conv_bytes (P := Try.prog) w6 22 9 5 Try.underlying22 Try.underlying5 Try.underlying9 cap hd6
  clear hs1 hs1' hbl hd5 hd5' hRr hd6 hd3 hd3' hb3 hR2' hR6' hk1 hk2 hk3 hk5 hk6 hg1
  go_wp2_with fail
  refine (raccepts w.heap.size R6 _ 7 6 w6 hR6'').mono ?_
  rintro e w7 ⟨rfl, rfl⟩
  have a1 : RS.accepts ⟨8, 7, 7, 6, 3, 4, [100, 101, 102, 103]⟩ 7 6 = true := by decide
  rw [a1]
  go_wp2_with fail
  refine (raccepts w.heap.size R6 _ 7 7 w6 hR6'').mono ?_
  rintro e w7 ⟨rfl, rfl⟩
  have a2 : RS.accepts ⟨8, 7, 7, 6, 3, 4, [100, 101, 102, 103]⟩ 7 7 = false := by decide
  rw [a2]
  go_wp2_with fail
  refine (raccepts w.heap.size R6 _ 8 7 w6 hR6'').mono ?_
  rintro e w7 ⟨rfl, rfl⟩
  have a3 : RS.accepts ⟨8, 7, 7, 6, 3, 4, [100, 101, 102, 103]⟩ 8 7 = true := by decide
  rw [a3]
  go_wp2_with fail
  refine (rtext 255 w6 (by omega)).mono ?_
  rintro e w7 ⟨rfl, hk7⟩
  have a4 : hexL 255 16 = [48, 48, 48, 48, 48, 48, 48, 48, 48, 48, 48, 48, 48, 48, 102, 102] := by decide
  rw [a4]
  go_wp2_with fail
  go_ret
  exact ⟨rfl, hK6.trans hk7⟩
end Go.Proofs.Ytlaahdjdlekopaa

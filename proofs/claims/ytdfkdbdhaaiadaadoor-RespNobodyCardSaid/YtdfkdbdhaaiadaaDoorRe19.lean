/- The law of nobody. -/
import Derived.Test.YtdfkdbdhaaiadaaDoorRe18
namespace Go.Proofs.YtdfkdbdhaaiadaaDoor
open Go.RowKit
attribute [local go_sem] fold_part fold_some fold_some' partAt_zero

theorem word_plus : fExp ++ [43, 39] = [80, 114, 111, 116, 111, 99, 111, 108, 32, 101, 114, 114, 111, 114, 58, 32, 101, 120, 112, 101, 99, 116, 101, 100, 32, 39, 36, 39, 44, 32, 103, 111, 116, 32, 39, 43, 39] := by rfl

set_option maxRecDepth 100000 in
set_option maxHeartbeats 3200000 in
theorem law_nobody (v : Value) (b0 : Bs) (w : World) (hV : Vs w) (h : BytesV w v b0) :
    Calls Tryd.prog 8 #[v] w fun e w' => e = .returned (.bool true) ∧ Kept NoBlock w w' := by
  obtain ⟨ap0, cap0, rfl, _, _⟩ := h.parts
  have HB := Lib.hid h
  have HV := Lib.hid hV
  clear h hV
  generalize b0.length = n0 at *
  go_enter Tryd.func8, Tryd.ntmps8
  go_wp2
  obtain ⟨W2, hW2⟩ : ∃ W2, (w.alloc (.cells #[.bool false, .bool false, .slice none 0 0] 46)).alloc (.cells #[.pointer none, .pointer (some ⟨w.heap.size, 0, none⟩)] 30) = W2 := ⟨_, rfl⟩
  have hk2 : Kept NoBlock w W2 := by rw [← hW2]; exact ((Kept.refl _ w).alloc _).alloc _
  have hg : W2.heap[w.heap.size]? = some (.cells #[.bool false, .bool false, .slice none 0 0] 46 (0, 0)) := by
    rw [← hW2]; exact (Below.heap_alloc _ _ _ (by simp)).trans (heap_alloc_new w _)
  have hp : W2.heap[w.heap.size + 1]? = some (.cells #[.pointer none, .pointer (some ⟨w.heap.size, 0, none⟩)] 30 (0, 0)) := by
    rw [← hW2]; have := heap_alloc_new (w.alloc (.cells #[.bool false, .bool false, .slice none 0 0] 46)) (.cells #[.pointer none, .pointer (some ⟨w.heap.size, 0, none⟩)] 30); rwa [World.size_alloc] at this
  rw [hW2]
  clear hW2
  obtain ⟨cp0, cp1, _, _⟩ := blk2 hp
  have HG := Lib.hid hg
  have HK2 := Lib.hid hk2
  clear hg hp hk2
  go_loopw [21] (fun i wr => ∃ k : Nat, k ≤ 2 ∧ i = .int .i64 k ∧ wr = W2) (fun i _ => 2 - (intOf i).toNat)
  case atStart => exact ⟨0, by omega, rfl, rfl⟩
  case round =>
    obtain ⟨k, hk, rfl, rfl⟩ := hrel
    rcases (by omega : k = 0 ∨ k = 1 ∨ k = 2) with rfl | rfl | rfl
    · go_wp2_with (first | (go_at_call 16; refine (pfeed_nil _ _).mono ?_; rintro e w' ⟨rfl, rfl⟩) | (go_at_call 18; refine (pleft_nil _).mono ?_; rintro e w' ⟨rfl, rfl⟩))
      go_roundw
      case rel => exact ⟨1, by omega, rfl, trivial⟩
      case measure => simp [intOf]
    · go_wp2_with (first | (go_at_call 16; refine (pfeed_unmade _ _ _ _ _ HG.out).mono ?_; rintro e w' ⟨rfl, rfl⟩) | (go_at_call 18; refine (pleft _ _ _ [] _ _ HG.out (BytesV.nil _)).mono ?_; rintro e w' ⟨rfl, rfl⟩))
      go_roundw
      case rel => exact ⟨2, by omega, rfl, trivial⟩
      case measure => simp [intOf]
    · have kc := fun (w : World) (C : Array Value) (n c : Nat) => Lib.run_convert_bytes_const (P := Tryd.prog) w 22 5 C n c Tryd.underlying22 Tryd.underlying5
      have kc2 : ∀ (w : World) (o : Obj) (C : Array Value) (n c : Nat), (convert 22 22 (.slice (some ⟨w.heap.size + 1, 0, none⟩) n c)).run Tryd.prog ((w.alloc o).alloc (.cells C 5)) = .ok (.slice (some ⟨w.heap.size + 1, 0, none⟩) n c) ((w.alloc o).alloc (.cells C 5 (C.size, C.size + 1))) := fun w o C n c => by
        have := kc (w.alloc o) C n c
        rwa [World.size_alloc] at this
      have hkA := HK2.out
      have hV1 := HV.out.below hkA.toB
      have hr1 : RdrAt (wr.alloc (.cells #[.bool true, .bool false, .slice none 0 0] 46)) wr.heap.size false [] := ⟨_, heap_alloc_new wr _, BytesV.nil _, by simp [vblk]⟩
      have hk2 : Kept NoBlock wr (wr.alloc (.cells #[.bool true, .bool false, .slice none 0 0] 46)) := (Kept.refl _ wr).alloc _
      have hf1 := pfeed_const wr.heap.size [] [42, 49, 13, 10, 43] _ (hV1.below hk2.toB) hr1 (by decide)
      rw [List.nil_append, split_plus, World.size_alloc, show ([42, 49, 13, 10, 43] : Bs).length = 5 from rfl] at hf1
      have HF1 := Lib.hid hf1
      have HKB := Lib.hid (hkA.trans hk2)
      have HKC := Lib.hid hk2
      clear hf1 hk2 hr1 hkA hV1
      clear cp0 cp1
      go_wp2_with (first | (go_at_call 15; refine (pnew wr).mono ?_; rintro e w2 ⟨rfl, _, rfl⟩) | (go_at_call 16; refine HF1.out.mono ?_; rintro e w3 ⟨hk3, va3, out3, rfl, ho3, hm3, hr3⟩; refine Hid.out ?_))
      have hr3' : RdrAt w3 wr.heap.size true [] := by
        rcases hr3 with ⟨h, _⟩ | ⟨_, h⟩
        · exact absurd h (by decide)
        · exact h
      obtain ⟨v3, hg3, hv3, _⟩ := hr3'
      have hkD : Kept NoBlock w w3 := (HKB.out.trans (constW_kept _ _)).trans' hk3 (fun i hi h => by have := HK2.out.size; omega)
      have hst : strV (fExp ++ [43, 39]) = .string ⟨#[80, 114, 111, 116, 111, 99, 111, 108, 32, 101, 114, 114, 111, 114, 58, 32, 101, 120, 112, 101, 99, 116, 101, 100, 32, 39, 36, 39, 44, 32, 103, 111, 116, 32, 39, 43, 39]⟩ := rfl
      simp only [hst] at *
      have HG3 := Lib.hid hg3
      have HV3 := Lib.hid hv3
      have HKD := Lib.hid hkD
      have HA := Lib.hid (pawake w3 (HV.out.below hkD.toB))
      have HB3 := Lib.hid (HB.out.keptNo hkD)
      clear hr3 hg3 hv3 hkD hk3 ho3 hm3 HF1
      refine Lib.hid ?_
      go_wp2_with (first | (go_at_call 10; refine (pcut _ b0 w3 HB3.out).mono ?_; rintro e w' ⟨u, rfl, hu, rfl, hub⟩) | (go_at_call 16; refine (pfeed_done _ _ _ _ HG3.out).mono ?_; rintro e w' ⟨rfl, rfl⟩) | (go_at_call 18; refine (pleft _ _ _ [] _ _ HG3.out HV3.out).mono ?_; rintro e w' ⟨rfl, rfl⟩) | (go_at_call 14; refine HA.out.mono ?_; rintro e w' ⟨rfl, hkE⟩))
      go_ret
      exact ⟨rfl, HKD.out.trans hkE⟩
end Go.Proofs.YtdfkdbdhaaiadaaDoor

/- The law's first question: two requests, and a third in pieces. -/
import Derived.Test.YtdfkdbdhaaiadaaDoorRe16
import Derived.Test.YtdfkdbdhaaiadaaDoorSp3
import Derived.Lib.SlBytesConst
namespace Go.Proofs.YtdfkdbdhaaiadaaDoor
open Go.RowKit
attribute [local go_sem] fold_part fold_some fold_some' partAt_zero

theorem ReqsV.form {w : World} {v : Value} {LL : List (List Bs)} (h : ReqsV w v LL) : ∃ ap c, v = .slice ap LL.length c ∧ LL.length ≤ c := by
  obtain ⟨out, h1, h2, _⟩ := h
  obtain ⟨ap, c, e, hc, _⟩ := h1.parts
  have := congrArg List.length h2
  rw [List.length_map] at this hc e
  exact ⟨ap, c, by rw [e, this], by omega⟩

theorem ReqsV.elem {w : World} {ap : Option Addr} {n c : Nat} {LL : List (List Bs)} (h : ReqsV w (.slice ap n c) LL) (i : Nat) {L : List Bs} (hi : LL[i]? = some L) :
    ∃ ad ap1 c1, ap = some ad ∧ w.cell? (ad.add i) = some (.slice ap1 L.length c1) ∧ ∀ j p, L[j]? = some p → ∃ ad1, ap1 = some ad1 ∧ w.cell? (ad1.add j) = some (strV p) := by
  obtain ⟨out, h1, h2, h3, _⟩ := h
  rw [← h2, List.getElem?_map] at hi
  obtain ⟨p, hp, rfl⟩ := Option.map_eq_some_iff.1 hi
  obtain ⟨ad, e, hc⟩ := RowV.cell h1 (i := i) (v := p.1) (by rw [List.getElem?_map, hp]; rfl)
  obtain ⟨h4, _⟩ := h3 p (List.mem_of_getElem? hp)
  obtain ⟨ap1, c1, e1, _, _⟩ := h4.parts
  rw [List.length_map] at e1
  rw [e1] at h4 hc
  exact ⟨ad, ap1, c1, e, hc, fun j q hq => RowV.cell h4 (by rw [List.getElem?_map, hq]; rfl)⟩

theorem bytes_fresh (w : World) (l : Bs) (fz : Nat × Nat) : BytesV (w.alloc (.cells (l.map bv).toArray 5 fz)) (.slice (some ⟨w.heap.size, 0, none⟩) l.length l.length) l := by
  refine RowV.mk ⟨by rw [List.length_map], fun _ => ⟨_, rfl, fun j v hj => ?_⟩⟩ (Nat.le_refl _) (fun h => by cases h)
  have : Addr.add ⟨w.heap.size, 0, none⟩ j = ⟨w.heap.size, j, none⟩ := by unfold Addr.add; split <;> simp_all
  rw [this]
  exact cellB (heap_alloc_new w _) (by simpa using hj)

/-- The bytes of a constant, as the code lays them. -/
def constW (w : World) (l : Bs) : World := w.alloc (.cells (l.map bv).toArray 5 (l.length, l.length + 1))
theorem constW_kept (w : World) (l : Bs) : Kept NoBlock w (constW w l) := (Kept.refl _ w).alloc _
theorem const_size (w : World) (l : Bs) : (constW w l).heap.size = w.heap.size + 1 := by simp [constW]

theorem RdrAt.keptNo {w w' : World} {g : Nat} {d : Bool} {l : Bs} (h : RdrAt w g d l) (hk : Kept NoBlock w w') : RdrAt w' g d l := by
  obtain ⟨v, hg, hv, hn, ht⟩ := h
  exact ⟨v, hk.heap hg (fun h => h), hv.keptNo hk, hn, fun k e => by obtain ⟨cs, h⟩ := ht k e; exact ⟨cs, hk.heap h (fun h => h)⟩⟩

/-- A constant fed to a reader. -/
theorem pfeed_const (g : Nat) (k y : Bs) (w : World) (hV : Vs w) (h : RdrAt w g false k) (hlen : k.length + y.length ≤ 100000000) :
    Calls Tryd.prog 16 #[.pointer (some ⟨g, 0, none⟩), .slice (some ⟨w.heap.size, 0, none⟩) y.length y.length] (constW w y) (FeedEnd g (split parseV (k ++ y)) (k ++ y) (constW w y)) :=
  pfeed g _ k y _ (hV.below (constW_kept _ _).toB) (h.keptNo (constW_kept _ _)) (bytes_fresh w y _) hlen

set_option maxRecDepth 100000 in
set_option maxHeartbeats 3200000 in
theorem pawake (w : World) (hV : Vs w) : Calls Tryd.prog 14 #[] w fun e w' => e = .returned (.bool true) ∧ Kept NoBlock w w' := by
  have hs1 := psplit _ _ awakeB (constW w awakeB) (hV.below (constW_kept _ _).toB) (bytes_fresh w awakeB _) rfl (fun k e => by rw [const_size]; simp [vblk] at e; omega) (by decide)
  rw [split_awake] at hs1
  have HS1 := Lib.hid hs1
  have kc := fun (w : World) (C : Array Value) (n c : Nat) => Lib.run_convert_bytes_const (P := Tryd.prog) w 22 5 C n c Tryd.underlying22 Tryd.underlying5
  have kc2 : ∀ (w : World) (o : Obj) (C : Array Value) (n c : Nat), (convert 22 22 (.slice (some ⟨w.heap.size + 1, 0, none⟩) n c)).run Tryd.prog ((w.alloc o).alloc (.cells C 5)) = .ok (.slice (some ⟨w.heap.size + 1, 0, none⟩) n c) ((w.alloc o).alloc (.cells C 5 (C.size, C.size + 1))) := fun w o C n c => by
    have := kc (w.alloc o) C n c
    rwa [World.size_alloc] at this
  have HV := Lib.hid hV
  clear hs1 hV
  go_enter Tryd.func14, Tryd.ntmps14
  go_wp2_with (go_at_call 11; refine HS1.out.mono ?_; rintro e w1 ⟨hk1, va, out, rfl, ho1, hm1⟩; refine Hid.out ?_)
  have hkA : Kept NoBlock w w1 := (constW_kept w awakeB).trans hk1
  have hq1 := ho1.reqs hm1
  obtain ⟨ap1, c1, rfl, _⟩ := hq1.form
  have hV1 := HV.out.below hkA.toB
  have hr1 : RdrAt (w1.alloc (.cells #[.bool true, .bool false, .slice none 0 0] 46)) w1.heap.size false [] := ⟨_, heap_alloc_new w1 _, BytesV.nil _, by simp [vblk], fun k h => by cases h⟩
  have hk2 : Kept NoBlock w1 (w1.alloc (.cells #[.bool true, .bool false, .slice none 0 0] 46)) := (Kept.refl _ w1).alloc _
  have hf1 := pfeed_const w1.heap.size [] [80, 73] _ (hV1.below hk2.toB) hr1 (by decide)
  rw [List.nil_append, split_pi, World.size_alloc, show ([80, 73] : Bs).length = 2 from rfl] at hf1
  have HF1 := Lib.hid hf1
  have HK2 := Lib.hid hk2
  have HKA := Lib.hid hkA
  have HQ1 := Lib.hid hq1
  have HV1 := Lib.hid hV1
  clear hf1 hk2 hr1 hkA hq1 hV1 HS1 hk1 ho1 hm1
  refine Lib.hid ?_
  go_wp2_with (first | (go_at_call 15; refine (pnew w1).mono ?_; rintro e w2 ⟨rfl, _, rfl⟩) | (go_at_call 16; refine HF1.out.mono ?_; rintro e w3 ⟨hk3, va3, out3, rfl, ho3, hm3, hr3⟩; refine Hid.out ?_))
  have hkB : Kept NoBlock w1 w3 := (HK2.out.trans (constW_kept _ _)).trans' hk3 (fun i hi h => by omega)
  have hq3 := ho3.reqs hm3
  obtain ⟨ap3, c3, rfl, _⟩ := hq3.form
  have hr3' : RdrAt w3 w1.heap.size false [80, 73] := by
    rcases hr3 with ⟨_, h⟩ | ⟨h, _⟩
    · exact h
    · exact absurd rfl h
  have hV3 := HV1.out.below hkB.toB
  have hf2 := pfeed_const w1.heap.size [80, 73] [78, 71, 10] w3 hV3 hr3' (by decide)
  rw [show ([80, 73] : Bs) ++ [78, 71, 10] = [80, 73, 78, 71, 10] from rfl, split_ping, show ([78, 71, 10] : Bs).length = 3 from rfl] at hf2
  have HF2 := Lib.hid hf2
  have HKB := Lib.hid hkB
  clear hf2 hkB hq3 hr3 hr3' hV3 hk3 ho3 hm3 HF1 HK2
  refine Lib.hid ?_
  go_wp2_with (go_at_call 16; refine HF2.out.mono ?_; rintro e w5 ⟨hk5, va5, out5, rfl, ho5, hm5, hr5⟩; refine Hid.out ?_)
  have hkC : Kept NoBlock w1 w5 := HKB.out.trans' ((constW_kept _ _).anyS.trans hk5) (fun i hi h => by omega)
  have hq5 := ho5.reqs hm5
  obtain ⟨ap5, c5, rfl, _⟩ := hq5.form
  have hq1 := HQ1.out.keptNo hkC
  obtain ⟨ad1, apx, cx, rfl, cA, hA⟩ := hq1.elem 1 (L := [[115, 101, 116], [97], [98, 32, 99]]) rfl
  obtain ⟨adx, rfl, cB⟩ := hA 2 [98, 32, 99] rfl
  obtain ⟨ad5, apy, cy, rfl, cC, hC⟩ := hq5.elem 0 (L := [[80, 73, 78, 71]]) rfl
  obtain ⟨ady, rfl, cD⟩ := hC 0 [80, 73, 78, 71] rfl
  have HK := Lib.hid (HKA.out.trans hkC)
  have cA' : w5.cell? ⟨ad1.block, ad1.off + 1, none⟩ = some (.slice (some adx) 3 cx) := cA
  have cB' : w5.cell? ⟨adx.block, adx.off + 2, none⟩ = some (.string ⟨#[98, 32, 99]⟩) := cB
  have cC' : w5.cell? ad5 = some (.slice (some ady) 1 cy) := cC
  have cD' : w5.cell? ady = some (.string ⟨#[80, 73, 78, 71]⟩) := cD
  clear cA cB cC cD hA hC hq1 hq5 hkC ho5 hm5 hr5 hk5 HF2 HKB HKA HQ1 HV1 HV
  simp only [List.length_cons, List.length_nil, Nat.reduceAdd, strV] at *
  refine Lib.hid ?_
  go_wp2
  go_ret
  exact ⟨rfl, HK.out⟩
end Go.Proofs.YtdfkdbdhaaiadaaDoor

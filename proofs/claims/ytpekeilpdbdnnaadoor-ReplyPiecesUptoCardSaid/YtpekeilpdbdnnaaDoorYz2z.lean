/- Merged: All replies of some bytes, by the program and by the document. -/
import Derived.Test.YtpekeilpdbdnnaaDoorYz1z
set_option linter.all false
namespace Go.Proofs.YtpekeilpdbdnnaaDoor
open Go.RowKit
attribute [local go_sem] fold_part fold_some fold_some' partAt_zero

/-- The world at the head of the loop over replies. -/
structure AllW (w : World) (ms : List RepM) (vX : Value) (wr : World) : Prop where
  k : Kept NoBlock w wr
  own : OwnK 4 26 rCells wr w.heap.size vX ms
  subs : ∀ m ∈ ms, GoodM wr (fun j => w.heap.size ≤ j ∧ ¬ (vX.ownBlock = some j)) m
  fits : ∀ m ∈ ms, FitM m
theorem AllW.kept {w : World} {ms : List RepM} {vX : Value} {wr w' : World} (h : AllW w ms vX wr) (hk : Kept NoBlock wr w') : AllW w ms vX w' := ⟨h.k.trans hk, h.own.kept hk, fun m hm => (h.subs m hm).keptN hk, h.fits⟩
theorem AllW.grow {w : World} {ms : List RepM} {m : RepM} {vX vX' : Value} {wr w' : World} (h : AllW w ms vX wr) (hg : wr.grownBy w' vX.ownBlock) (hown : OwnK 4 26 rCells w' w.heap.size vX' (ms ++ [m])) (hpl : ∀ j, vX'.ownBlock = some j → vX.ownBlock = some j ∨ wr.heap.size ≤ j)
    (hm : GoodM wr (fun j => w.heap.size ≤ j ∧ ¬ (vX.ownBlock = some j)) m) (hf : FitM m) : AllW w (ms ++ [m]) vX' w' := by
  have hlt := h.own.lt
  have hk : Kept (fun j => vX.ownBlock = some j) wr w' := Kept.grown (Kept.refl _ wr) hg (fun j e _ => e)
  have hsub : ∀ x, GoodM wr (fun j => w.heap.size ≤ j ∧ ¬ (vX.ownBlock = some j)) x → GoodM w' (fun j => w.heap.size ≤ j ∧ ¬ (vX'.ownBlock = some j)) x := fun x hx =>
    hx.kept hk (fun j _ hP e => hP.2 e) (fun j hj hP => ⟨hP.1, fun e => by
      rcases hpl j e with h1 | h1
      · exact hP.2 h1
      · omega⟩)
  refine ⟨Kept.trans' h.k hk (fun i hi e => by have := (hlt i e).1; omega), hown, fun x hx => ?_, fun x hx => ?_⟩
  · rcases List.mem_append.1 hx with hx | hx
    · exact hsub x (h.subs x hx)
    · obtain rfl := List.mem_singleton.1 hx
      exact hsub _ hm
  · rcases List.mem_append.1 hx with hx | hx
    · exact h.fits x hx
    · obtain rfl := List.mem_singleton.1 hx
      exact hf
def AllEnd (w : World) (b : Bs) (e : Ending) (w' : World) : Prop := Kept NoBlock w w' ∧ ∃ v ms, e = .returned (.tuple #[v, .int .i64 (allB b).2.1, .int .i64 (allB b).2.2]) ∧ ms.map RepM.rep = (allB b).1 ∧ RowK 4 rCells w' v ms ∧ (∀ m ∈ ms, GoodM w' AnyB m ∧ FitM m) ∧ ms.length ≤ b.length
theorem AllW.fin {w : World} {b : Bs} {ms : List RepM} {vX : Value} {wr : World} {p : Nat} {c : Int} (h : AllW w ms vX wr) (hm : allB b = (ms.map RepM.rep, p, c)) (hl : ms.length ≤ b.length) : AllEnd w b (.returned (.tuple #[vX, .int .i64 p, .int .i64 c])) wr := by
  refine ⟨h.k, vX, ms, by rw [hm], by rw [hm], OwnK.row rCells_len (by decide) h.own, fun m hmm => ⟨(h.subs m hmm).any, h.fits m hmm⟩, hl⟩

set_option maxRecDepth 100000 in
set_option maxHeartbeats 3200000 in
theorem pAll (v : Value) (b : Bs) (w : World) (h : BytesV w v b) (hl : b.length ≤ 100000000) (hlt : ∀ j, vblk v = some j → j < w.heap.size) :
    Calls Tryd.prog 20 #[v] w (AllEnd w b) := by
  obtain ⟨ap, cap, rfl, hcp, _⟩ := h.parts
  obtain ⟨n, hn⟩ : ∃ n, n = b.length := ⟨_, rfl⟩
  rw [← hn] at h hl hcp hlt ⊢
  have HB := Lib.hid h
  have HLT := Lib.hid hlt
  have HN := Lib.hid hn
  have HST := Lib.hid (show AllW w [] (.slice none 0 0) w from ⟨Kept.refl _ _, OwnK.nil _ _, fun m hm => (by cases hm), fun m hm => (by cases hm)⟩)
  clear h hlt hn
  go_enter Tryd.func20, Tryd.ntmps20
  go_wp2_with fail
  go_loopw [5, 6] (fun v5 v6 wr => ∃ (p m : Nat) (ms : List RepM), v6 = .int .i64 p ∧ p ≤ n ∧ ms.length ≤ p ∧ AllW w ms v5 wr ∧ n - p < m ∧ allB b = mapA (ms.map RepM.rep) p (allF m (b.drop p))) (fun _ v6 _ => n - (intOf v6).toNat)
  case atStart => exact ⟨0, n + 1, [], rfl, Nat.zero_le _, Nat.le_refl _, HST.out, by omega, by rw [HN.out]; unfold allB mapA; simp⟩
  case round =>
    obtain ⟨p, m, ms, rfl, hp, hms, hw, hmp, hmod⟩ := hrel
    obtain ⟨m', rfl⟩ : ∃ q, m = q + 1 := ⟨m - 1, by omega⟩
    have HW := Lib.hid hw
    have HMO := Lib.hid hmod
    have ht := BytesV.tail (HB.out.keptNo hw.k) p hp
    have hdl : (b.drop p).length = n - p := by rw [List.length_drop, HN.out]
    have HD := Lib.hid (pDecode _ (b.drop p) wr ht (by omega) (fun j e => Nat.lt_of_lt_of_le (HLT.out j (by rw [partAt_blk (n' := n) (c' := cap)] at e; exact e)) hw.k.size))
    have hpc : p ≤ cap := by omega
    have HDC := Lib.hid (decP_cases (b.drop p))
    clear hw hmod ht
    have HDL := Lib.hid hdl
    clear hdl
    go_wp2_with fail
    refine HD.out.mono ?_
    rintro e w2 ⟨hk2, r, rfl, hr, hgr, hfr⟩
    obtain ⟨apm, capm, hvm, _⟩ := hgr.row.parts
    have hka := Kept.allocd w2 (.cells #[.int .i64 r.k, .string ⟨r.s.toArray⟩, .int .i64 r.n, .slice apm r.l.length capm] 26)
    have hga := heap_alloc_new w2 (.cells #[.int .i64 r.k, .string ⟨r.s.toArray⟩, .int .i64 r.n, .slice apm r.l.length capm] 26)
    have hown := HW.out.own.lt
    have HG := Lib.hid ((hgr.mono (Q := fun j => w.heap.size ≤ j ∧ ¬ (u5.ownBlock = some j)) (fun j _ hP => ⟨by have := HW.out.k.size; omega, fun e => by have := (hown j e).2; omega⟩)).keptN hka)
    have HF := Lib.hid hfr
    have HR := Lib.hid hr
    have HVM := Lib.hid hvm
    have HW2 := Lib.hid ((HW.out.kept hk2).kept hka)
    have HGA := Lib.hid hga
    obtain ⟨c, hc⟩ : ∃ c, c = (decP (b.drop p)).2.2 := ⟨_, rfl⟩
    obtain ⟨k, hkk⟩ : ∃ k, k = (decP (b.drop p)).2.1 := ⟨_, rfl⟩
    rw [← hc, ← hkk] at HDC ⊢
    have HC := Lib.hid hc
    have HKK := Lib.hid hkk
    unfold repA
    rw [hvm]
    unfold strV
    obtain ⟨a0, a1, a2, a3⟩ := blk4 hga
    clear hk2 hr hgr hfr hvm hka hga hown hc hkk HD HST
    rcases HDC.out with ⟨rfl, hk1, hk2⟩ | ⟨rfl, hk2⟩ | ⟨rfl, hk2⟩
    · -- one more
      have hkb : p + k ≤ n := by have := HDL.out; omega
      have hnx : allB b = mapA ((ms ++ [r]).map RepM.rep) (p + k) (allF m' (b.drop (p + k))) := by
        rw [HMO.out, mapA_next _ _ HC.out.symm, ← HKK.out, List.drop_drop, List.map_append, ← HR.out]
        rfl
      have HNX := Lib.hid hnx
      clear hnx hk2
      have hkb2 := Kept.allocd (w2.alloc (.cells #[.int .i64 r.k, .string ⟨r.s.toArray⟩, .int .i64 r.n, .slice apm r.l.length capm] 26)) (.cells #[.int .i64 r.k, .string ⟨r.s.toArray⟩, .int .i64 r.n, .slice apm r.l.length capm] 26)
      have hgb2 := heap_alloc_new (w2.alloc (.cells #[.int .i64 r.k, .string ⟨r.s.toArray⟩, .int .i64 r.n, .slice apm r.l.length capm] 26)) (.cells #[.int .i64 r.k, .string ⟨r.s.toArray⟩, .int .i64 r.n, .slice apm r.l.length capm] 26)
      have HWA := Lib.hid (HW2.out.kept hkb2)
      have HGB := Lib.hid hgb2
      have HG2 := Lib.hid (HG.out.keptN hkb2)
      have hz1 : (w2.alloc (.cells #[.int .i64 r.k, .string ⟨r.s.toArray⟩, .int .i64 r.n, .slice apm r.l.length capm] 26)).heap.size = w2.heap.size + 1 := World.size_alloc _ _
      rw [hz1] at HGB
      clear hkb2 hgb2 hz1
      go_wp2_with (at_builtin; refine wpList_appP rfl _ _ 24 (by rfl) Tryd.underlying24 _ 56 repInfo rfl (by decide) (by decide) rCells_len w.heap.size u5 ms (by rfl) HWA.out.own (w2.heap.size + 1) r #[.int .i64 r.k, .string ⟨r.s.toArray⟩, .int .i64 r.n, .slice apm r.l.length capm] (0, 0) (by rfl) HGB.out (by unfold rCells strV; rw [HVM.out]) (rCells_one r (by rw [HVM.out]; rfl)) (by omega) HWA.out.k.size ?_; intro v' w' hown hgr hpl; refine Hid.out ?_)
      have HW9 := Lib.hid (AllW.grow HWA.out hgr hown hpl HG2.out HF.out)
      clear hown hgr hpl HWA HG2 HG HW2 a0 a1 a2 a3
      refine Lib.hid ?_
      go_wp2_with fail
      go_roundw
      case rel => exact ⟨p + k, m', ms ++ [r], by go_num, hkb, by rw [List.length_append, List.length_singleton]; omega, HW9.out, by omega, HNX.out⟩
      case measure => simp [intOf]; omega
    · -- too short
      have hfin : allB b = (ms.map RepM.rep, p, 0) := by rw [HMO.out, mapA_short _ _ HC.out.symm]
      have HFIN := Lib.hid (HW2.out.fin hfin (by have := HN.out; omega))
      clear hfin hk2
      go_wp2_with fail
      refine bodyPost_ret (v := .tuple #[u5, .int .i64 p, .int .i64 0]) (by simp [results, Tryd.results20, go_sem]) rfl ?_
      exact HFIN.out
    · -- wrong
      have hkb : p + k ≤ n := by have := HDL.out; omega
      have hfin : allB b = (ms.map RepM.rep, p + k, 30) := by rw [HMO.out, mapA_wrong _ _ HC.out.symm, HKK.out]
      have hfin2 := HW2.out.fin hfin (by have := HN.out; omega)
      rw [show (((p + k : Nat) : Int)) = (p : Int) + (k : Int) by omega] at hfin2
      have HFIN := Lib.hid hfin2
      clear hfin hfin2 hk2
      go_wp2_with fail
      refine bodyPost_ret (v := .tuple #[u5, .int .i64 ((p : Int) + (k : Int)), .int .i64 30]) (by simp [results, Tryd.results20, go_sem]) rfl ?_
      exact HFIN.out

set_option maxRecDepth 100000 in
set_option maxHeartbeats 3200000 in
theorem rAll (v : Value) (b : Bs) (w : World) (h : BytesV w v b) (hl : b.length ≤ 100000000) (hlt : ∀ j, vblk v = some j → j < w.heap.size) :
    Calls Tryd.prog 21 #[v] w (AllEnd w b) := by
  obtain ⟨ap, cap, rfl, hcp, _⟩ := h.parts
  obtain ⟨n, hn⟩ : ∃ n, n = b.length := ⟨_, rfl⟩
  rw [← hn] at h hl hcp hlt ⊢
  have HB := Lib.hid h
  have HLT := Lib.hid hlt
  have HN := Lib.hid hn
  have HST := Lib.hid (show AllW w [] (.slice none 0 0) w from ⟨Kept.refl _ _, OwnK.nil _ _, fun m hm => (by cases hm), fun m hm => (by cases hm)⟩)
  clear h hlt hn
  go_enter Tryd.func21, Tryd.ntmps21
  go_wp2_with fail
  go_loopw [5, 6] (fun v5 v6 wr => ∃ (p m : Nat) (ms : List RepM), v6 = .int .i64 p ∧ p ≤ n ∧ ms.length ≤ p ∧ AllW w ms v5 wr ∧ n - p < m ∧ allB b = mapA (ms.map RepM.rep) p (allF m (b.drop p))) (fun _ v6 _ => n - (intOf v6).toNat)
  case atStart => exact ⟨0, n + 1, [], rfl, Nat.zero_le _, Nat.le_refl _, HST.out, by omega, by rw [HN.out]; unfold allB mapA; simp⟩
  case round =>
    obtain ⟨p, m, ms, rfl, hp, hms, hw, hmp, hmod⟩ := hrel
    obtain ⟨m', rfl⟩ : ∃ q, m = q + 1 := ⟨m - 1, by omega⟩
    have HW := Lib.hid hw
    have HMO := Lib.hid hmod
    have ht := BytesV.tail (HB.out.keptNo hw.k) p hp
    have hdl : (b.drop p).length = n - p := by rw [List.length_drop, HN.out]
    have HD := Lib.hid (rDecode _ (b.drop p) wr ht (by omega) (fun j e => Nat.lt_of_lt_of_le (HLT.out j (by rw [partAt_blk (n' := n) (c' := cap)] at e; exact e)) hw.k.size))
    have hpc : p ≤ cap := by omega
    have HDC := Lib.hid (decP_cases (b.drop p))
    clear hw hmod ht
    have HDL := Lib.hid hdl
    clear hdl
    go_wp2_with fail
    refine HD.out.mono ?_
    rintro e w2 ⟨hk2, r, rfl, hr, hgr, hfr⟩
    obtain ⟨apm, capm, hvm, _⟩ := hgr.row.parts
    have hka := Kept.allocd w2 (.cells #[.int .i64 r.k, .string ⟨r.s.toArray⟩, .int .i64 r.n, .slice apm r.l.length capm] 26)
    have hga := heap_alloc_new w2 (.cells #[.int .i64 r.k, .string ⟨r.s.toArray⟩, .int .i64 r.n, .slice apm r.l.length capm] 26)
    have hown := HW.out.own.lt
    have HG := Lib.hid ((hgr.mono (Q := fun j => w.heap.size ≤ j ∧ ¬ (u5.ownBlock = some j)) (fun j _ hP => ⟨by have := HW.out.k.size; omega, fun e => by have := (hown j e).2; omega⟩)).keptN hka)
    have HF := Lib.hid hfr
    have HR := Lib.hid hr
    have HVM := Lib.hid hvm
    have HW2 := Lib.hid ((HW.out.kept hk2).kept hka)
    have HGA := Lib.hid hga
    obtain ⟨c, hc⟩ : ∃ c, c = (decP (b.drop p)).2.2 := ⟨_, rfl⟩
    obtain ⟨k, hkk⟩ : ∃ k, k = (decP (b.drop p)).2.1 := ⟨_, rfl⟩
    rw [← hc, ← hkk] at HDC ⊢
    have HC := Lib.hid hc
    have HKK := Lib.hid hkk
    unfold repA
    rw [hvm]
    unfold strV
    obtain ⟨a0, a1, a2, a3⟩ := blk4 hga
    clear hk2 hr hgr hfr hvm hka hga hown hc hkk HD HST
    rcases HDC.out with ⟨rfl, hk1, hk2⟩ | ⟨rfl, hk2⟩ | ⟨rfl, hk2⟩
    · -- one more
      have hkb : p + k ≤ n := by have := HDL.out; omega
      have hnx : allB b = mapA ((ms ++ [r]).map RepM.rep) (p + k) (allF m' (b.drop (p + k))) := by
        rw [HMO.out, mapA_next _ _ HC.out.symm, ← HKK.out, List.drop_drop, List.map_append, ← HR.out]
        rfl
      have HNX := Lib.hid hnx
      clear hnx hk2
      have hkb2 := Kept.allocd (w2.alloc (.cells #[.int .i64 r.k, .string ⟨r.s.toArray⟩, .int .i64 r.n, .slice apm r.l.length capm] 26)) (.cells #[.int .i64 r.k, .string ⟨r.s.toArray⟩, .int .i64 r.n, .slice apm r.l.length capm] 26)
      have hgb2 := heap_alloc_new (w2.alloc (.cells #[.int .i64 r.k, .string ⟨r.s.toArray⟩, .int .i64 r.n, .slice apm r.l.length capm] 26)) (.cells #[.int .i64 r.k, .string ⟨r.s.toArray⟩, .int .i64 r.n, .slice apm r.l.length capm] 26)
      have HWA := Lib.hid (HW2.out.kept hkb2)
      have HGB := Lib.hid hgb2
      have HG2 := Lib.hid (HG.out.keptN hkb2)
      have hz1 : (w2.alloc (.cells #[.int .i64 r.k, .string ⟨r.s.toArray⟩, .int .i64 r.n, .slice apm r.l.length capm] 26)).heap.size = w2.heap.size + 1 := World.size_alloc _ _
      rw [hz1] at HGB
      clear hkb2 hgb2 hz1
      go_wp2_with (at_builtin; refine wpList_appP rfl _ _ 24 (by rfl) Tryd.underlying24 _ 56 repInfo rfl (by decide) (by decide) rCells_len w.heap.size u5 ms (by rfl) HWA.out.own (w2.heap.size + 1) r #[.int .i64 r.k, .string ⟨r.s.toArray⟩, .int .i64 r.n, .slice apm r.l.length capm] (0, 0) (by rfl) HGB.out (by unfold rCells strV; rw [HVM.out]) (rCells_one r (by rw [HVM.out]; rfl)) (by omega) HWA.out.k.size ?_; intro v' w' hown hgr hpl; refine Hid.out ?_)
      have HW9 := Lib.hid (AllW.grow HWA.out hgr hown hpl HG2.out HF.out)
      clear hown hgr hpl HWA HG2 HG HW2 a0 a1 a2 a3
      refine Lib.hid ?_
      go_wp2_with fail
      go_roundw
      case rel => exact ⟨p + k, m', ms ++ [r], by go_num, hkb, by rw [List.length_append, List.length_singleton]; omega, HW9.out, by omega, HNX.out⟩
      case measure => simp [intOf]; omega
    · -- too short
      have hfin : allB b = (ms.map RepM.rep, p, 0) := by rw [HMO.out, mapA_short _ _ HC.out.symm]
      have HFIN := Lib.hid (HW2.out.fin hfin (by have := HN.out; omega))
      clear hfin hk2
      go_wp2_with fail
      refine bodyPost_ret (v := .tuple #[u5, .int .i64 p, .int .i64 0]) (by simp [results, Tryd.results21, go_sem]) rfl ?_
      exact HFIN.out
    · -- wrong
      have hkb : p + k ≤ n := by have := HDL.out; omega
      have hfin : allB b = (ms.map RepM.rep, p + k, 30) := by rw [HMO.out, mapA_wrong _ _ HC.out.symm, HKK.out]
      have hfin2 := HW2.out.fin hfin (by have := HN.out; omega)
      rw [show (((p + k : Nat) : Int)) = (p : Int) + (k : Int) by omega] at hfin2
      have HFIN := Lib.hid hfin2
      clear hfin hfin2 hk2
      go_wp2_with fail
      refine bodyPost_ret (v := .tuple #[u5, .int .i64 ((p : Int) + (k : Int)), .int .i64 30]) (by simp [results, Tryd.results21, go_sem]) rfl ?_
      exact HFIN.out
end Go.Proofs.YtpekeilpdbdnnaaDoor

/- The laws of all requests, and of words. -/
import Derived.Test.YtdfkdbdhaaiadaaDoorRs10
import Derived.Test.YtdfkdbdhaaiadaaDoorOwnM
namespace Go.Proofs.YtdfkdbdhaaiadaaDoor
open Go.RowKit
attribute [local go_sem] fold_part fold_some fold_some' partAt_zero

/-- The document's 'Split' as the laws ask it. -/
theorem rsplit' (v : Value) (b : Bs) (w : World) (h : BytesV w v b) (hlen : b.length ≤ 1000000) :
    Calls Tryd.prog 12 #[v] w fun e w' => Kept NoBlock w w' ∧ ∃ ap c, e = .returned (.tuple #[.slice ap (split parseV b).1.length c, .int .i64 ((split parseV b).2.1 : Nat), strV (split parseV b).2.2]) ∧ (split parseV b).1.length ≤ c ∧ ReqsV w' (.slice ap (split parseV b).1.length c) (split parseV b).1 := by
  refine (rsplit v b w h hlen).mono ?_
  rintro e w' ⟨hk, va, out, rfl, ho, hm⟩
  have hq := ho.reqs hm
  obtain ⟨ap, c, rfl, hc⟩ := hq.form
  exact ⟨hk, ap, c, rfl, hc, hq⟩

set_option maxRecDepth 100000 in
set_option maxHeartbeats 3200000 in
theorem law_splits (v : Value) (b0 : Bs) (w : World) (hV : Vs w) (h : BytesV w v b0) (hlt : ∀ k, vblk v = some k → k < w.heap.size) :
    Calls Tryd.prog 3 #[v] w fun e w' => e = .returned (.bool true) ∧ Kept NoBlock w w' := by
  have hcut := pcut v b0 w h
  obtain ⟨ap0, cap0, rfl, _, _⟩ := h.parts
  have HCUT := Lib.hid hcut
  have HV := Lib.hid hV
  have HLT := Lib.hid hlt
  clear h hcut hV hlt
  generalize b0.length = n0 at *
  go_enter Tryd.func3, Tryd.ntmps3
  go_wp2_with (go_at_call 10; refine HCUT.out.mono ?_; rintro e w' ⟨u, rfl, hu, rfl, hub⟩; refine Hid.out ?_)
  obtain ⟨b, hb⟩ : ∃ b, b = b0.take 300000 := ⟨_, rfl⟩
  have hbl : b.length ≤ 300000 := by rw [hb, List.length_take]; omega
  rw [← hb] at hu
  have hs1 := psplit' u b w HV.out hu (by omega) (fun k e => HLT.out k (by rw [← hub]; exact e))
  have hs2 := fun W (hk : Kept NoBlock w W) => rsplit' u b W (hu.keptNo hk) (by omega)
  obtain ⟨S, hS⟩ : ∃ S, S = split parseV b := ⟨_, rfl⟩
  rw [← hS] at hs1 hs2
  obtain ⟨S1, S2, S3⟩ := S
  simp only at hs1 hs2
  have HS1 := Lib.hid hs1
  have HS2 := Lib.hid hs2
  clear hs1 hs2 hS hu hub hb hbl HCUT HLT
  refine Lib.hid ?_
  go_wp2_with fail
  refine HS1.out.mono ?_
  rintro e w1 ⟨hk1, ap1, c1, rfl, hc1, hq1⟩
  have hs2 := HS2.out w1 hk1
  have HK1 := Lib.hid hk1
  have HQ1 := Lib.hid hq1
  have HS := Lib.hid hs2
  clear hs2 hk1 hq1 HS1 HS2
  go_wp2_with fail
  refine HS.out.mono ?_
  rintro e w2 ⟨hk2, ap2, c2, rfl, hc2, hq2⟩
  have hsm := psame _ _ S1 w2 (HQ1.out.keptNo hk2) hq2
  have HK2 := Lib.hid (HK1.out.trans hk2)
  have haw := fun q => pawake (w2.drewN q) ((HV.out.below HK2.out.toB).drewN q)
  have HSM := Lib.hid hsm
  have HAW := Lib.hid haw
  simp only [strV] at *
  generalize (⟨S3.toArray⟩ : ByteArray) = F at *
  generalize S1.length = sn at *
  clear hsm haw hk2 hq2 HS HK1 HQ1
  go_wp2_with (first | (go_at_call 13; refine HSM.out.mono ?_; rintro e w' ⟨rfl, q, rfl⟩) | (go_at_call 14; refine (HAW.out _).mono ?_; rintro e w' ⟨rfl, hk3⟩))
  go_ret
  exact ⟨rfl, (HK2.out.drewN q).trans hk3⟩

theorem str_around (l : Bs) : (⟨#[32]⟩ : ByteArray) ++ ⟨l.toArray⟩ ++ ⟨#[10]⟩ = ⟨(32 :: (l ++ [10])).toArray⟩ := by
  have e1 := str_app [32] l
  have e2 := str_app ([32] ++ l) [10]
  show ((⟨[32].toArray⟩ : ByteArray) ++ ⟨l.toArray⟩) ++ ⟨[10].toArray⟩ = _
  rw [e1, e2]
  simp

theorem conv_str (w : World) (Y : ByteArray) : (convert 9 22 (.string Y)).run Tryd.prog w = .ok (.slice (some ⟨w.heap.size, 0, none⟩) Y.size (grownCap w Y.size 0 5)) (Lib.bytesWorld w 5 Y) :=
  Lib.run_convert_string_bytes w _ _ 5 Y Tryd.underlying9 Tryd.underlying22 Tryd.underlying5

set_option maxRecDepth 100000 in
set_option maxHeartbeats 3200000 in
theorem law_words (S : ByteArray) (hS63 : S.size ≤ 9223372036854775807) (w : World) (hV : Vs w) :
    Calls Tryd.prog 6 #[.string S] w fun e w' => e = .returned (.bool true) ∧ Kept NoBlock w w' := by
  obtain ⟨T, hT, hT7⟩ : ∃ T : ByteArray, ((70000 < S.size ∧ S.extract 0 70000 = T) ∨ (¬ 70000 < S.size ∧ T = S)) ∧ T.size ≤ 70000 := by
    by_cases h : 70000 < S.size
    · refine ⟨_, .inl ⟨h, rfl⟩, ?_⟩
      rw [ByteArray.size_extract]; omega
    · exact ⟨S, .inr ⟨h, rfl⟩, by omega⟩
  obtain ⟨Y, hY⟩ : ∃ Y : ByteArray, Y = (⟨#[32]⟩ : ByteArray) ++ T ++ ⟨#[10]⟩ := ⟨_, rfl⟩
  have hYb : Y = ⟨(32 :: (T.data.toList ++ [10])).toArray⟩ := by rw [hY, ← str_around]
  obtain ⟨b, hb⟩ : ∃ b, b = 32 :: (T.data.toList ++ [10]) := ⟨_, rfl⟩
  rw [← hb] at hYb
  have hbl : b.length ≤ 70002 := by
    have : T.data.toList.length = T.size := by rw [Array.length_toList]; rfl
    rw [hb, List.length_cons, List.length_append, this]; simp; omega
  have hYs : Y.size = b.length := str_size0 hYb
  have hrow : ∀ W, BytesV (Lib.bytesWorld W 5 Y) (.slice (some ⟨W.heap.size, 0, none⟩) Y.size (grownCap W Y.size 0 5)) b := fun W => by
    have := (bytesWorld_own W 5 Y (by rw [hYs]; unfold maxLen; omega)).row
    rwa [show Y.data.toList = b by rw [hYb]] at this
  have hkb := fun W => bytesWorld_kept W 5 Y
  have hsz := fun W => Lib.bytesWorld_size W 5 Y
  have hs1 := fun W (hV : Vs W) => psplit' _ b (Lib.bytesWorld W 5 Y) (hV.below (hkb W).toB) (hrow W) (by omega) (fun k e => by rw [hsz]; simp [vblk] at e; omega)
  have hs2 := fun W => rsplit' _ b (Lib.bytesWorld W 5 Y) (hrow W) (by omega)
  have hcv := conv_str
  obtain ⟨M, hM⟩ : ∃ M, M = split parseV b := ⟨_, rfl⟩
  rw [← hM] at hs1 hs2
  obtain ⟨S1, S2, S3⟩ := M
  simp only at hs1 hs2
  have HS1 := Lib.hid hs1
  have HS2 := Lib.hid hs2
  have HKB := Lib.hid hkb
  have HV := Lib.hid hV
  have q1 : ¬ (9223372036854775807 < 1 + T.size) := by omega
  have q2 : ¬ (9223372036854775807 < 1 + T.size + 1) := by omega
  have hYe := hY.symm
  clear hs1 hs2 hM hrow hYs hYb hb hbl hsz hkb hV hY
  have hfin : ∀ (s : ByteArray), True := fun _ => trivial
  clear hfin
  rcases hT with ⟨h7, hX⟩ | ⟨h7, rfl⟩
  all_goals
    go_enter Tryd.func6, Tryd.ntmps6
    go_wp2_with fail
    refine (HS1.out w HV.out).mono ?_
    rintro e w1 ⟨hk1, ap1, c1, rfl, hc1, hq1⟩
    have hk1' := (HKB.out w).trans hk1
    have hs2 := HS2.out w1
    have HK1 := Lib.hid hk1'
    have HQ1 := Lib.hid hq1
    have HS := Lib.hid hs2
    clear hs2 hk1 hk1' hq1
    go_wp2_with fail
    refine HS.out.mono ?_
    rintro e w2 ⟨hk2, ap2, c2, rfl, hc2, hq2⟩
    have hk2' := (HKB.out w1).trans hk2
    have hsm := psame _ _ S1 w2 (HQ1.out.keptNo hk2') hq2
    have HK2 := Lib.hid (HK1.out.trans hk2')
    have haw := fun q => pawake (w2.drewN q) ((HV.out.below HK2.out.toB).drewN q)
    have HSM := Lib.hid hsm
    have HAW := Lib.hid haw
    simp only [strV] at *
    generalize (⟨S3.toArray⟩ : ByteArray) = F at *
    generalize S1.length = sn at *
    clear hsm haw hk2 hk2' hq2 HS HK1 HQ1 HS1 HS2 hcv
    go_wp2_with (first | (go_at_call 13; refine HSM.out.mono ?_; rintro e w' ⟨rfl, q, rfl⟩) | (go_at_call 14; refine (HAW.out _).mono ?_; rintro e w' ⟨rfl, hk3⟩))
    go_ret
    exact ⟨rfl, (HK2.out.drewN q).trans hk3⟩
end Go.Proofs.YtdfkdbdhaaiadaaDoor

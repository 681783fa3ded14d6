/- A request's bytes, by the document. -/
import Derived.Test.YtdfkdbdhaaiadaaDoorRw1
import Derived.Test.YtdfkdbdhaaiadaaDoorFloat
namespace Go.Proofs.YtdfkdbdhaaiadaaDoor
open Go.RowKit
open Go.Lib (decDigits)
attribute [local go_sem] fold_part fold_some fold_some' partAt_zero

theorem rwrite_none (ap : Option Addr) (c : Nat) (w : World) : Calls Tryd.prog 20 #[.slice ap 0 c] w fun e w' => e = .returned (.tuple #[.slice none 0 0, .int .i64 1]) ∧ w = w' := by
  go_enter Tryd.func20, Tryd.ntmps20
  go_wp2
  go_ret2
  exact ⟨rfl, rfl⟩
theorem rwrite_many (ap : Option Addr) (n c : Nat) (hn : 1024 < n) (h2 : n ≤ 2000) (w : World) : Calls Tryd.prog 20 #[.slice ap n c] w fun e w' => e = .returned (.tuple #[.slice none 0 0, .int .i64 3]) ∧ w = w' := by
  have h0 : ¬ (n : Int) = 0 := by omega
  have h1 : (1024 : Int) < n := by omega
  go_enter Tryd.func20, Tryd.ntmps20
  go_wp2
  go_ret2
  exact ⟨rfl, rfl⟩

set_option maxRecDepth 100000 in
set_option maxHeartbeats 3200000 in
theorem rwrite (v : Value) (L : List Bs) (w : World) (hV : Vs w) (h : TextsV w v L) (h0 : 0 < L.length) (h1 : L.length ≤ 1024) :
    Calls Tryd.prog 20 #[v] w (WEnd L w) := by
  obtain ⟨hr, _⟩ := h
  obtain ⟨ap, cap, rfl, _, _⟩ := hr.parts
  rw [List.length_map] at hr ⊢
  have HV := Lib.hid hV
  have HR := Lib.hid hr
  clear hV hr
  obtain ⟨n, hn⟩ : ∃ n, n = L.length := ⟨_, rfl⟩
  rw [← hn]
  have HN := Lib.hid hn
  rw [← hn] at h0 h1
  have hn0 : ¬ (n : Int) = 0 := by omega
  have hn1 : ¬ (1024 : Int) < n := by omega
  clear hn
  have hD : Lib.itoa (n : Int) = decDigits n := Lib.itoa_nonneg _
  have hDl := dec_len 5 n (by omega)
  have hit := nitoa (n : Int) (by omega) (by omega) w HV.out
  rw [hD] at hit
  have hpre := wPre_str n _ rfl
  have hpl := wPre_len n h1 [] (fun s hs => by cases hs)
  obtain ⟨D, hDD⟩ : ∃ D : ByteArray, D = ⟨(decDigits n).toArray⟩ := ⟨_, rfl⟩
  have hDs : D.size ≤ 6 := by rw [hDD]; exact hDl
  rw [← hDD] at hit hpre
  have HIT := Lib.hid hit
  have HPRE := Lib.hid hpre
  clear hit hD hDl hpre hDD
  go_enter Tryd.func20, Tryd.ntmps20
  go_wp2_with (go_at_call 23; refine HIT.out.mono ?_; rintro e w1 ⟨rfl, hk1⟩; refine Hid.out ?_)
  have hcv := Lib.run_convert_string_bytes (P := Tryd.prog) w1 9 22 5 ((⟨#[42]⟩ : ByteArray) ++ D ++ ⟨#[13, 10]⟩) Tryd.underlying9 Tryd.underlying22 Tryd.underlying5
  have hlen1 : ((⟨#[42]⟩ : ByteArray) ++ D ++ ⟨#[13, 10]⟩).size = (wPre n []).length := by rw [HPRE.out]; rfl
  have hown := bytesWorld_own w1 5 ((⟨#[42]⟩ : ByteArray) ++ D ++ ⟨#[13, 10]⟩) (by rw [hlen1]; unfold maxLen; simp only [List.length_nil] at hpl; omega)
  have hkb := bytesWorld_kept w1 5 ((⟨#[42]⟩ : ByteArray) ++ D ++ ⟨#[13, 10]⟩)
  generalize hW : Lib.bytesWorld w1 5 ((⟨#[42]⟩ : ByteArray) ++ D ++ ⟨#[13, 10]⟩) = W at *
  rw [hlen1] at hown hcv
  have hown2 : OwnT W w.heap.size (.slice (some ⟨w1.heap.size, 0, none⟩) (wPre n []).length (grownCap w1 (wPre n []).length 0 5)) (wPre n []) := by
    have := hown.lower hk1.size
    rwa [show ((⟨#[42]⟩ : ByteArray) ++ D ++ ⟨#[13, 10]⟩).data.toList = wPre n [] by rw [HPRE.out]] at this
  have HO2 := Lib.hid hown2
  have HK2 := Lib.hid (hk1.trans hkb)
  clear hown hown2 hkb hk1 hW hpl hlen1
  refine Lib.hid ?_
  go_wp2
  go_loopw [4, 5] (fun vb vi wr => ∃ j : Nat, j ≤ n ∧ vi = .int .i64 j ∧ OwnT wr w.heap.size vb (wPre n (L.take j)) ∧ Short (L.take j) ∧ Kept NoBlock w wr) (fun _ vi _ => n - (intOf vi).toNat)
  case atStart => exact ⟨0, Nat.zero_le _, rfl, HO2.out, fun s hs => (by cases hs), HK2.out⟩
  case round =>
    obtain ⟨j, hj, rfl, hown, hsh, hk⟩ := hrel
    have HO := Lib.hid hown
    have HK := Lib.hid hk
    have HSh := Lib.hid hsh
    have hsz := hk.size
    clear hown hk hsh HO2 HK2 hcv HIT HPRE
    by_cases hlt2 : j < n
    · have hjL : j < L.length := by rw [← HN.out]; exact hlt2
      obtain ⟨ad, rfl, hc2⟩ := RowV.cell (HR.out.keptNo HK.out) (i := j) (v := strV L[j]) (by rw [List.getElem?_map, List.getElem?_eq_getElem hjL]; rfl)
      obtain ⟨S, hS⟩ : ∃ S : ByteArray, S = ⟨L[j].toArray⟩ := ⟨_, rfl⟩
      have hSl : L[j].length = S.size := by rw [hS]; rfl
      have hc' : wr.cell? (ad.add j) = some (.string S) := by rw [hc2, hS]; rfl
      have hltI : (j : Int) < (n : Int) := by omega
      by_cases hs : S.size ≤ 65536
      · have hs' : ¬ (65536 : Int) < S.size := by omega
        have hsl : L[j].length ≤ 65536 := by omega
        have hts := take_snoc' L j hjL
        have hps : wPre n (L.take (j + 1)) = wPre n (L.take j) ++ wBulk decDigits L[j] := by rw [hts, wPre_snoc]
        have hsh2 : Short (L.take (j + 1)) := by rw [hts]; exact HSh.out.snoc hsl
        have hpl := wPre_len n h1 (L.take j) HSh.out
        have hbl := wBulk_len L[j] hsl
        have hit := fun W hVW => nitoa (L[j].length : Int) (by omega) (by omega) W hVW
        rw [Lib.itoa_nonneg] at hit
        have hDl := dec_len 5 L[j].length (by omega)
        have hbs := wBulk_str L[j] _ rfl
        obtain ⟨D2, hD2⟩ : ∃ D : ByteArray, D = ⟨(decDigits L[j].length).toArray⟩ := ⟨_, rfl⟩
        have hD2s : D2.size ≤ 6 := by rw [hD2]; exact hDl
        rw [← hD2] at hit hbs
        rw [← hS] at hbs
        rw [hSl] at hit
        rw [List.length_take] at hpl
        have HIT2 := Lib.hid hit
        have HBS := Lib.hid hbs
        have HPS := Lib.hid hps
        have HSH2 := Lib.hid hsh2
        have hpl6 : (wPre n (L.take j)).length + (wBulk decDigits L[j]).length ≤ 100000000 := by
          have : 65600 * (min j L.length) ≤ 65600 * 1024 := Nat.mul_le_mul_left _ (by omega)
          omega
        have hcd : ∀ W, Kept NoBlock w W → W.cell? (ad.add j) = some (.string S) := fun W hk => by
          obtain ⟨ad', e1, h⟩ := RowV.cell (HR.out.keptNo hk) (i := j) (v := strV L[j]) (by rw [List.getElem?_map, List.getElem?_eq_getElem hjL]; rfl)
          cases e1; rw [h, hS]; rfl
        have HCD := Lib.hid hcd
        clear hc2 hts hps hpl hbl hit hDl hbs hS hD2 hsl hSl hsh2 hcd
        go_wp2
        refine wp_planC (fun W => W.cell? (ad.add j) = some (.string S)) 16 [.flt 0, .flt 9, .flt 10, .flt 11, .flt 12, .seg [1, 2, 3, 4, 5] 6, .seg [7, 8, 13, 14] 15, .seg [] 16] [] (by kernel_rfl) (by kernel_rfl) (fun _ _ _ dst _ h => by cases dst <;> exact h) (fun _ _ h => h) hc' (fun n0 => ?_)
        repeat (refine planC_flt rfl rfl ?_; apply Exists.intro; refine ⟨fun w' hw' => ?_, ?_⟩; (go_simp; first | rfl | exact ⟨rfl, rfl⟩); simp only [Act.put, List.setIfInBounds_toArray, List.set_cons_succ, List.set_cons_zero])
        simp only [wpPlanC, pick, List.filterMap_cons, List.filterMap_nil, List.getElem?_cons_succ, List.getElem?_cons_zero]
        repeat (quiet_step (fail))
        refine wpQuiet_nil ?_
        rintro _ ⟨n1, rfl⟩
        go_wp2_with fail
        refine (HIT2.out _ ((HV.out.below HK.out.toB).drewN _)).mono ?_
        rintro e w2 ⟨rfl, hk2⟩
        have hk2' : Kept NoBlock wr w2 := ((Kept.refl NoBlock wr).drewN _).trans hk2
        have hc2 := HCD.out w2 (HK.out.trans hk2')
        have hown2 : OwnT w2 w.heap.size u4 (wPre n (L.take j)) := OwnM.kept HO.out hk2'
        have hsz2 := hk2'.size
        have HK2 := Lib.hid hk2'
        clear hk2 hk2'
        go_wp2_with fail
        refine Halt.mk ⟨.inr hc2, ?_⟩
        have q1 : ¬ (9223372036854775807 < 1 + D2.size) := by omega
        have q2 : ¬ (9223372036854775807 < 1 + D2.size + 2) := by omega
        have q3 : ¬ (9223372036854775807 < 1 + D2.size + 2 + S.size) := by omega
        have q4 : ¬ (9223372036854775807 < 1 + D2.size + 2 + S.size + 2) := by omega
        repeat (quiet_step (fail))
        refine wpQuiet_nil ?_
        rintro _ ⟨n2, rfl⟩
        refine wpList_appT rfl _ _ rfl w.heap.size u4 _ rfl (OwnM.drewN hown2 n2) _ _ HBS.out rfl hpl6 (by simp [World.drewN]; omega) ?_
        intro v3 w3 hown3 hg3
        have hk3 := Kept.app ((HK.out.trans HK2.out).drewN n2) (OwnM.drewN hown2 n2) (Nat.le_refl _) hg3
        have hc3 := HCD.out w3 hk3
        have HO3 := Lib.hid hown3
        have HK3 := Lib.hid hk3
        clear hown3 hg3 hk3
        go_wp2_with fail
        refine Halt.mk ⟨.inr hc3, ?_⟩
        go_wp2
        refine Halt.mk ⟨.inl trivial, ?_⟩
        go_wp2
        go_roundw
        case rel => exact ⟨j + 1, by omega, by go_num, by rw [HPS.out]; exact HO3.out, HSH2.out, HK3.out⟩
        case measure => simp [intOf]; omega
      · have hs' : (65536 : Int) < S.size := by omega
        have HSl := Lib.hid hSl
        clear hSl hS hc2
        go_wp2
        go_ret2
        exact ⟨HK.out, .inl ⟨⟨L[j], List.getElem_mem _, by rw [HSl.out]; omega⟩, rfl⟩⟩
    · obtain rfl : j = n := by omega
      go_wp2
      go_ret2
      have h2 := HSh.out
      have h3 := HO.out
      rw [List.take_of_length_le (by rw [← HN.out]; exact Nat.le_refl _)] at h2 h3
      refine ⟨HK.out, .inr ⟨h2, _, rfl, ?_⟩⟩
      rw [← wPre_all, ← HN.out]
      exact h3
end Go.Proofs.YtdfkdbdhaaiadaaDoor

/- 'NumberBack', walked. -/
import Derived.Test.YtakfheljiobpkaaDoorNum7
import Derived.Test.YtakfheljiobpkaaDoorNum6
import Derived.Lib.ItoaLen
namespace Go.Proofs.YtakfheljiobpkaaDoor
open Go.RowKit

theorem ext_size {s : ByteArray} (h : 100 < s.size) : (s.extract 0 100).size ≤ 100 := by
  rw [ByteArray.size_extract]; omega

set_option maxHeartbeats 3200000 in
theorem law_back (n : Int) (s : ByteArray) (w : World) (hV : Vs w) (hn : In64 n) : Calls Tryd.prog 4 #[.int .i64 n, .string s] w (True1 w) := by
  obtain ⟨h1, h2⟩ := hn
  by_cases hc : 100 < s.size
  · go_enter Tryd.func4, Tryd.ntmps4
    go_wp2_with fail
    refine (ntext n h1 h2 w hV).mono ?_
    rintro e w1 ⟨rfl, hb1⟩
    have hlen := Lib.itoa_length_le n h1 h2
    have HP := nparse ⟨(Lib.itoa n).toArray⟩ (by show (Lib.itoa n).toArray.size ≤ 1000; rw [List.size_toArray]; omega) w1 (hV.below hb1)
    have e1 : parseV (⟨(Lib.itoa n).toArray⟩ : ByteArray).data.toList = (n, 0) := parseV_itoa n h1 h2
    rw [e1] at HP
    clear e1 hlen
    generalize hG : (⟨(Lib.itoa n).toArray⟩ : ByteArray) = G at HP ⊢
    clear hG
    go_wp2_with fail
    refine HP.mono ?_
    rintro e w2 ⟨rfl, hb2⟩
    clear HP
    have hB2 := hb1.trans (hb2.mono hb1.size)
    have hS100 := ext_size hc
    generalize s.extract 0 100 = S at hS100 ⊢
    have HS := nparse S (by omega) w2 (hV.below hB2)
    rcases parseV_cases S.data.toList with hp | ⟨v, hp, hit, v1, v2⟩
    · rw [hp] at HS
      clear hp
      go_wp2_with fail
      refine HS.mono ?_
      rintro e w3 ⟨rfl, hb3⟩
      have hB3 := hB2.trans (hb3.mono hB2.size)
      clear HS
      go_wp2_with fail
      refine (alive_true w3 (hV.below hB3)).mono ?_
      rintro e w4 ⟨rfl, hb4⟩
      go_wp2
      go_ret
      exact ⟨rfl, hB3.trans (hb4.mono hB3.size)⟩
    · rw [hp] at HS
      clear hp
      go_wp2_with fail
      refine HS.mono ?_
      rintro e w3 ⟨rfl, hb3⟩
      have hB3 := hB2.trans (hb3.mono hB2.size)
      have HT := ntext v v1 v2 w3 (hV.below hB3)
      have e2 : (⟨(Lib.itoa v).toArray⟩ : ByteArray) = S := by rw [hit]
      rw [e2] at HT
      clear HS e2 hit
      go_wp2_with fail
      refine HT.mono ?_
      rintro e w4 ⟨rfl, hb4⟩
      have hB4 := hB3.trans (hb4.mono hB3.size)
      clear HT
      go_wp2_with fail
      refine (alive_true w4 (hV.below hB4)).mono ?_
      rintro e w5 ⟨rfl, hb5⟩
      go_wp2
      go_ret
      exact ⟨rfl, hB4.trans (hb5.mono hB4.size)⟩
  · go_enter Tryd.func4, Tryd.ntmps4
    go_wp2_with fail
    refine (ntext n h1 h2 w hV).mono ?_
    rintro e w1 ⟨rfl, hb1⟩
    have hlen := Lib.itoa_length_le n h1 h2
    have HP := nparse ⟨(Lib.itoa n).toArray⟩ (by show (Lib.itoa n).toArray.size ≤ 1000; rw [List.size_toArray]; omega) w1 (hV.below hb1)
    have e1 : parseV (⟨(Lib.itoa n).toArray⟩ : ByteArray).data.toList = (n, 0) := parseV_itoa n h1 h2
    rw [e1] at HP
    clear e1 hlen
    generalize hG : (⟨(Lib.itoa n).toArray⟩ : ByteArray) = G at HP ⊢
    clear hG
    go_wp2_with fail
    refine HP.mono ?_
    rintro e w2 ⟨rfl, hb2⟩
    clear HP
    have hB2 := hb1.trans (hb2.mono hb1.size)
    obtain ⟨S, hSs⟩ : ∃ S, S = s := ⟨_, rfl⟩
    subst hSs
    have HS := nparse S (by omega) w2 (hV.below hB2)
    rcases parseV_cases S.data.toList with hp | ⟨v, hp, hit, v1, v2⟩
    · rw [hp] at HS
      clear hp
      go_wp2_with fail
      refine HS.mono ?_
      rintro e w3 ⟨rfl, hb3⟩
      have hB3 := hB2.trans (hb3.mono hB2.size)
      clear HS
      go_wp2_with fail
      refine (alive_true w3 (hV.below hB3)).mono ?_
      rintro e w4 ⟨rfl, hb4⟩
      go_wp2
      go_ret
      exact ⟨rfl, hB3.trans (hb4.mono hB3.size)⟩
    · rw [hp] at HS
      clear hp
      go_wp2_with fail
      refine HS.mono ?_
      rintro e w3 ⟨rfl, hb3⟩
      have hB3 := hB2.trans (hb3.mono hB2.size)
      have HT := ntext v v1 v2 w3 (hV.below hB3)
      have e2 : (⟨(Lib.itoa v).toArray⟩ : ByteArray) = S := by rw [hit]
      rw [e2] at HT
      clear HS e2 hit
      go_wp2_with fail
      refine HT.mono ?_
      rintro e w4 ⟨rfl, hb4⟩
      have hB4 := hB3.trans (hb4.mono hB3.size)
      clear HT
      go_wp2_with fail
      refine (alive_true w4 (hV.below hB4)).mono ?_
      rintro e w5 ⟨rfl, hb5⟩
      go_wp2
      go_ret
      exact ⟨rfl, hB4.trans (hb5.mono hB4.size)⟩
end Go.Proofs.YtakfheljiobpkaaDoor

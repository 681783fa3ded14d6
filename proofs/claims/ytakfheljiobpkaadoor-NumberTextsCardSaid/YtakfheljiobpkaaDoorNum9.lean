/- 'NumberTexts', walked. -/
import Derived.Test.YtakfheljiobpkaaDoorNeq
import Derived.Test.YtakfheljiobpkaaDoorNum8
namespace Go.Proofs.YtakfheljiobpkaaDoor
open Go.RowKit

set_option maxHeartbeats 3200000 in
theorem law_texts (s : ByteArray) (n : Int) (w : World) (hV : Vs w) (hn : In64 n) : Calls Tryd.prog 3 #[.string s, .int .i64 n] w (True1 w) := by
  by_cases hc : 100 < s.size
  · go_enter Tryd.func3, Tryd.ntmps3
    go_wp2_with fail
    have hS100 := ext_size hc
    generalize s.extract 0 100 = S at hS100 ⊢
    have HS := nparse S (by omega) w hV
    obtain ⟨x, hx⟩ : ∃ x, x = (parseV S.data.toList).1 := ⟨_, rfl⟩
    obtain ⟨y, hy⟩ : ∃ y, y = (parseV S.data.toList).2 := ⟨_, rfl⟩
    have HR := nrparse S (by omega)
    rw [ref_is_parse] at HR
    rw [← hx, ← hy] at HS HR
    clear hx hy
    refine HS.mono ?_
    rintro e w1 ⟨rfl, hb1⟩
    clear HS
    go_wp2_with fail
    refine (HR w1).mono ?_
    rintro e w1' ⟨rfl, rfl⟩
    clear HR
    go_wp2_with fail
    refine (ntext n hn.1 hn.2 w1 (hV.below hb1)).mono ?_
    rintro e w2 ⟨rfl, hb2⟩
    have hB2 := hb1.trans (hb2.mono hb1.size)
    have HT := nrtext n w2 hn
    generalize (⟨(Lib.itoa n).toArray⟩ : ByteArray) = G at HT ⊢
    go_wp2_with fail
    refine HT.mono ?_
    rintro e w3 ⟨rfl, hk3⟩
    have hB3 := hB2.trans (hk3.below hB2.size (fun _ h => h.elim))
    clear HT
    go_wp2_with fail
    refine (alive_true w3 (hV.below hB3)).mono ?_
    rintro e w4 ⟨rfl, hb4⟩
    go_wp2
    go_ret
    exact ⟨rfl, hB3.trans (hb4.mono hB3.size)⟩
  · go_enter Tryd.func3, Tryd.ntmps3
    go_wp2_with fail
    obtain ⟨S, hSs⟩ : ∃ S, S = s := ⟨_, rfl⟩
    subst hSs
    have HS := nparse S (by omega) w hV
    obtain ⟨x, hx⟩ : ∃ x, x = (parseV S.data.toList).1 := ⟨_, rfl⟩
    obtain ⟨y, hy⟩ : ∃ y, y = (parseV S.data.toList).2 := ⟨_, rfl⟩
    have HR := nrparse S (by omega)
    rw [ref_is_parse] at HR
    rw [← hx, ← hy] at HS HR
    clear hx hy
    refine HS.mono ?_
    rintro e w1 ⟨rfl, hb1⟩
    clear HS
    go_wp2_with fail
    refine (HR w1).mono ?_
    rintro e w1' ⟨rfl, rfl⟩
    clear HR
    go_wp2_with fail
    refine (ntext n hn.1 hn.2 w1 (hV.below hb1)).mono ?_
    rintro e w2 ⟨rfl, hb2⟩
    have hB2 := hb1.trans (hb2.mono hb1.size)
    have HT := nrtext n w2 hn
    generalize (⟨(Lib.itoa n).toArray⟩ : ByteArray) = G at HT ⊢
    go_wp2_with fail
    refine HT.mono ?_
    rintro e w3 ⟨rfl, hk3⟩
    have hB3 := hB2.trans (hk3.below hB2.size (fun _ h => h.elim))
    clear HT
    go_wp2_with fail
    refine (alive_true w3 (hV.below hB3)).mono ?_
    rintro e w4 ⟨rfl, hb4⟩
    go_wp2
    go_ret
    exact ⟨rfl, hB3.trans (hb4.mono hB3.size)⟩
end Go.Proofs.YtakfheljiobpkaaDoor

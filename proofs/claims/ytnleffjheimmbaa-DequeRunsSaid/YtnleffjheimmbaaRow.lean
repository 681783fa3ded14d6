/- The document's row: a plain list, kept in a struct. -/
import Derived.Test.YtnleffjheimmbaaAppend
import Derived.Test.YtnleffjheimmbaaWk
import Derived.Test.YtnleffjheimmbaaFloat
import Derived.Maps.AppendAt
namespace Go.Proofs.Ytnleffjheimmbaa
open Go.RowKit Go.Shelf
attribute [local go_sem] stillV_value stillV_skip

/-- The row at block b holds L, in a slice v of its own, which lies from base on. -/
def Rw (w : World) (b base : Nat) (v : Value) (L : List ByteArray) : Prop :=
  Boxed w b 45 v ∧ w.ownsRow base 9 1 v L.length (L.map .string)

theorem Rw.below {w w' : World} {b base : Nat} {v : Value} {L : List ByteArray} (h : Rw w b base v L) (hB : Below w.heap.size w w') : Rw w' b base v L := by
  refine ⟨(hB.block _ h.1.lt).trans h.1, h.2.1, ?_⟩
  rcases h.2.2 with h' | ⟨g, cap, cur, e1, e2, e3, rest⟩
  · exact .inl h'
  · exact .inr ⟨g, cap, cur, e1, e2, (hB.block _ (lt_of_heap e3)).trans e3, rest⟩

theorem in_row (i n : Int) (w : World) : Calls Try.prog 41 #[.int .i64 i, .int .i64 n] w fun e w' => e = .returned (.bool (decide (0 ≤ i ∧ i < n))) ∧ w = w' := by
  go_enter Try.func41, Try.ntmps41
  by_cases h0 : 0 ≤ i
  · by_cases h1 : i < n
    · have hd : decide (0 ≤ i ∧ i < n) = true := by simp; omega
      rw [hd]
      go_wp2
      go_ret
      exact ⟨rfl, rfl⟩
    · have hd : decide (0 ≤ i ∧ i < n) = false := by simp; omega
      rw [hd]
      go_wp2
      go_ret
      exact ⟨rfl, rfl⟩
  · have hd : decide (0 ≤ i ∧ i < n) = false := by simp; omega
    rw [hd]
    go_wp2
    go_ret
    exact ⟨rfl, rfl⟩

theorem rw_len {w : World} {b base : Nat} {v : Value} {L : List ByteArray} (h : Rw w b base v L) : ∃ ap cap, v = .slice ap L.length cap ∧ w.cell? ⟨b, 0, none⟩ = some (.slice ap L.length cap) ∧ L.length ≤ cap ∧ (ap = none → L.length = 0 ∧ cap = 0) ∧
    (∀ ad, ap = some ad → ∃ k cur, ad = ⟨k, 0, none⟩ ∧ w.heap[k]? = some (.cells cur 9 (0, 0)) ∧ cur.toList.take L.length = L.map .string ∧ cur.size = cap ∧ base ≤ k) := by
  rcases h.2.2 with ⟨h1, h2⟩ | ⟨g, cap, cur, e1, e2, e3, e4, _, e5, e6⟩
  · have hl : L.length = 0 := h2
    refine ⟨none, 0, by rw [h1, hl], ?_, by omega, fun _ => ⟨hl, rfl⟩, fun _ h => by cases h⟩
    rw [hl, ← h1]; exact h.1.cell
  · refine ⟨some ⟨g, 0, none⟩, cap, e1, ?_, e4, fun h => by (cases h), ?_⟩
    · rw [← e1]; exact h.1.cell
    · rintro ad e
      cases e
      exact ⟨g, cur, rfl, e3, by simpa using e6, by simpa using e5, e2⟩

theorem rowInsert_out (b base : Nat) (v : Value) (L : List ByteArray) (i : Int) (s : ByteArray) (w : World) (h : Rw w b base v L) (hi : i < 0 ∨ L.length < i) :
    Calls Try.prog 42 #[.pointer (some ⟨b, 0, none⟩), .int .i64 i, .string s] w fun e w' => e = .returned (.int .i64 5) ∧ w = w' := by
  obtain ⟨ap, cap, rfl, hc, _⟩ := rw_len h
  go_enter Try.func42, Try.ntmps42
  by_cases h0 : i < 0
  · go_wp2
    go_ret
    exact ⟨rfl, rfl⟩
  · have h1 : (L.length : Int) < i := by omega
    go_wp2
    go_ret
    exact ⟨rfl, rfl⟩

theorem rowTrim_out (b base : Nat) (v : Value) (L : List ByteArray) (i k : Int) (w : World) (h : Rw w b base v L) (hi : i < 0 ∨ k < i ∨ L.length < k) :
    Calls Try.prog 44 #[.pointer (some ⟨b, 0, none⟩), .int .i64 i, .int .i64 k] w fun e w' => e = .returned (.int .i64 5) ∧ w = w' := by
  obtain ⟨ap, cap, rfl, hc, _⟩ := rw_len h
  go_enter Try.func44, Try.ntmps44
  by_cases h0 : i < 0
  · go_wp2
    go_ret
    exact ⟨rfl, rfl⟩
  · by_cases hk : k < i
    · go_wp2
      go_ret
      exact ⟨rfl, rfl⟩
    · have h1 : (L.length : Int) < k := by omega
      go_wp2
      go_ret
      exact ⟨rfl, rfl⟩

theorem rowRemove_out (b base : Nat) (v : Value) (L : List ByteArray) (i : Int) (w : World) (h : Rw w b base v L) (hi : i < 0 ∨ L.length ≤ i) :
    Calls Try.prog 43 #[.pointer (some ⟨b, 0, none⟩), .int .i64 i] w fun e w' => e = .returned (.tuple #[.string ⟨#[]⟩, .int .i64 5]) ∧ w = w' := by
  obtain ⟨ap, cap, rfl, hc, _⟩ := rw_len h
  have hd : decide (0 ≤ i ∧ i < (L.length : Int)) = false := by simp; omega
  go_enter Try.func43, Try.ntmps43
  go_wp2_with fail
  refine (in_row i L.length w).mono ?_
  rintro e w' ⟨rfl, rfl⟩
  rw [hd]
  go_wp2
  go_ret2
  exact ⟨rfl, rfl⟩

theorem holds_none (w : World) (ap : Option Addr) : Holds w ap 0 [] := ⟨rfl, fun h => absurd h (Nat.lt_irrefl _)⟩

theorem oneCell_strings (L : List ByteArray) : ∀ u ∈ L.map Value.string, u.oneCell' = true := by
  intro u hu
  obtain ⟨s, _, rfl⟩ := List.mem_map.1 hu
  rfl

set_option maxHeartbeats 1600000 in
theorem rowTrim (b base : Nat) (v : Value) (L : List ByteArray) (i k : Nat) (w : World) (h : Rw w b base v L) (hb : base ≤ w.heap.size) (hik : i ≤ k) (hk : k ≤ L.length) (hl : L.length ≤ 1000000) :
    Calls Try.prog 44 #[.pointer (some ⟨b, 0, none⟩), .int .i64 i, .int .i64 k] w fun e w' => e = .returned (.int .i64 0) ∧ ∃ v', Rw w' b base v' ((L.take k).drop i) ∧ (∀ q, v'.ownBlock = some q → w.heap.size ≤ q) ∧ Kept (fun q => q = b) w w' := by
  obtain ⟨ap, cap, rfl, hc, hcap, hn, hs⟩ := rw_len h
  have hbox := h.1
  have hblt := hbox.lt
  clear h
  obtain ⟨i0, hi, hz0, hz1, hz2⟩ := info_parts wkInfo
  have hmade := World.ownsRow_made (e := 9) (size := 1) w #[] 0 (Nat.le_refl _) (by unfold maxLen; omega) rfl
  have hB1 : Below w.heap.size w (w.alloc (.cells #[] 9)) := (Below.refl _ w).alloc (Nat.le_refl _) _
  have hlk : ((L.take k).drop i).length = k - i := by rw [List.length_drop, List.length_take]; omega
  have key : ∀ v' w2, w2.ownsRow w.heap.size 9 1 v' (k - i) (((L.take k).drop i).map .string) → (w.alloc (.cells #[] 9)).grownBy w2 (some w.heap.size) →
      w2.cell? ⟨b, 0, none⟩ = some (.slice ap L.length cap) ∧ w2.frozen? ⟨b, 0, none⟩ = false ∧ Rw (w2.setCell ⟨b, 0, none⟩ v') b base v' ((L.take k).drop i) ∧ (∀ q, v'.ownBlock = some q → w.heap.size ≤ q) ∧ Kept (fun q => q = b) w (w2.setCell ⟨b, 0, none⟩ v') := by
    intro v' w2 hr hg
    have hB2 : Below w.heap.size w w2 := hB1.grown hg (by simp) (fun q e => by cases e; exact Nat.le_refl _)
    have hbx2 : Boxed w2 b 45 _ := (hB2.block _ hblt).trans hbox
    refine ⟨hbx2.cell, hbx2.frozen, ⟨hbx2.set _, ?_⟩, fun q e => (hr.lt q e).1, ?_⟩
    · rw [hlk]
      exact (ownsRow_lower hr hb).kept (grownBy_setCell' w2 b _) (.inr (hbx2.not_row (by decide) hr).symm)
    · exact Kept.setCell (S := fun q => q = b) (Kept.of_below hB2 (fun q h1 h2 => by omega)) (p := ⟨b, 0, none⟩) (fun _ => rfl) _
  have KEY := Lib.hid key
  clear key hlk
  by_cases hci : cap = i
  · obtain rfl : i = k := by omega
    have hX : (L.take i).drop i = [] := List.drop_of_length_le (by rw [List.length_take]; omega)
    rw [hX, Nat.sub_self] at KEY
    rw [hX]
    have hn0 : ap = none → 0 = 0 := fun _ => rfl
    clear hX hn hs
    go_enter Try.func44, Try.ntmps44
    go_wp2_with (at_builtin; refine wpList_append_holds rfl _ _ 22 rfl w.heap.size 9 i0 (.string ⟨#[]⟩) 16 Try.underlying22 hi hz0 hz1 hz2 rfl _ 0 [] rfl hmade ap 0 0 [] rfl (holds_none _ _) hn0 (by simp) (by unfold maxLen; omega) (by omega) (by simp) ?_; intro v' w2 hr hg; rw [Nat.zero_add, List.nil_append] at hr; obtain ⟨g1, g2, g3, g4, g5⟩ := KEY.out v' w2 hr hg; obtain ⟨ap', cap', rfl, _⟩ := ownsRow_form hr; clear hr hg)
    go_ret
    exact ⟨rfl, _, g3, g4, g5⟩
  · have hap : ap ≠ none := fun e => by have := hn e; omega
    obtain ⟨ad, rfl⟩ := Option.ne_none_iff_exists'.1 hap
    obtain ⟨q, cur, rfl, hh, ht, hsz, hbq⟩ := hs ad rfl
    have hH := holds_row ((hB1.block q (lt_of_heap hh)).trans hh) ht (by simp) i (k - i) (by omega)
    have hX : ((L.map Value.string).drop i).take (k - i) = ((L.take k).drop i).map .string := by rw [List.map_drop, List.map_take, List.drop_take]
    rw [hX] at hH
    clear hX hn hs hap
    go_enter Try.func44, Try.ntmps44
    go_wp2_with (at_builtin; refine wpList_append_holds rfl _ _ 22 rfl w.heap.size 9 i0 (.string ⟨#[]⟩) 16 Try.underlying22 hi hz0 hz1 hz2 rfl _ 0 [] rfl hmade _ (k - i) _ _ rfl hH (fun h => by cases h) (oneCell_strings _) (by unfold maxLen; omega) (by omega) (by simp) ?_; intro v' w2 hr hg; rw [Nat.zero_add, List.nil_append] at hr; obtain ⟨g1, g2, g3, g4, g5⟩ := KEY.out v' w2 hr hg; obtain ⟨ap', cap', rfl, _⟩ := ownsRow_form hr; clear hr hg)
    go_ret
    exact ⟨rfl, _, g3, g4, g5⟩

set_option maxHeartbeats 1600000 in
theorem rowInsert (b base : Nat) (v : Value) (L : List ByteArray) (i : Nat) (s : ByteArray) (w : World) (h : Rw w b base v L) (hb : base ≤ w.heap.size) (hin : i ≤ L.length) (hl : L.length ≤ 1000000) :
    Calls Try.prog 42 #[.pointer (some ⟨b, 0, none⟩), .int .i64 i, .string s] w fun e w' => e = .returned (.int .i64 0) ∧ ∃ v', Rw w' b base v' (L.take i ++ s :: L.drop i) ∧ (∀ q, v'.ownBlock = some q → w.heap.size ≤ q) ∧ Kept (fun q => q = b) w w' := by
  obtain ⟨ap, cap, rfl, hc, hcap, hn, hs⟩ := rw_len h
  have hbox := h.1
  have hblt := hbox.lt
  have hHL : Holds w ap L.length (L.map .string) := ownsRow_holds h.2
  clear h
  obtain ⟨i0, hi, hz0, hz1, hz2⟩ := info_parts wkInfo
  obtain ⟨B, hBe⟩ : ∃ B, B = w.heap.size := ⟨_, rfl⟩
  have hmade : (w.alloc (.cells #[] 9)).ownsRow B 9 1 (.slice (some ⟨w.heap.size, 0, none⟩) 0 0) 0 [] := World.ownsRow_made (e := 9) (size := 1) w #[] 0 (by omega) (by unfold maxLen; omega) rfl
  have hBw : B ≤ w.heap.size := by omega
  have hB1 : Below B w (w.alloc (.cells #[] 9)) := (Below.refl _ w).alloc hBw _
  have hBW : ∀ w', Below B w w' → Below w.heap.size w w' := fun w' h => by rw [← hBe]; exact h
  have hH1 : Holds (w.alloc (.cells #[] 9)) ap i ((L.take i).map .string) := by
    have := (hHL.below (hBW _ hB1)).take i
    rwa [← List.map_take, List.length_map, List.length_take, Nat.min_eq_left hin] at this
  have hnil : ap = none → cap = 0 := fun e => (hn e).2
  have k1 : ∀ w2, (w.alloc (.cells #[] 9)).grownBy w2 (some w.heap.size) → Below B w w2 ∧ B ≤ w2.heap.size := by
    intro w2 hg
    have h2 : Below B w w2 := hB1.grown hg (by simp; omega) (fun q e => by cases e; omega)
    exact ⟨h2, by have := h2.size; omega⟩
  have k2 : ∀ v1 w2 w3, Below B w w2 → B ≤ w2.heap.size → w2.ownsRow B 9 1 v1 i ((L.take i).map .string) → (w2.alloc (.cells #[.string s] 9)).grownBy w3 v1.ownBlock →
      Below B w w3 ∧ B ≤ w3.heap.size ∧ w3.cell? ⟨b, 0, none⟩ = some (.slice ap L.length cap) ∧ Below w.heap.size w w3 := by
    intro v1 w2 w3 h1 h2 hr hg
    have h3 : Below B w w3 := below_app h1 h2 hr hg
    have hbx : Boxed w3 b 45 _ := ((hBW _ h3).block _ hblt).trans hbox
    exact ⟨h3, by have := h3.size; omega, hbx.cell, hBW _ h3⟩
  have k3 : ∀ v2 xs v3 w3 w4, Below B w w3 → B ≤ w3.heap.size → w3.ownsRow B 9 1 v2 (i + 1) xs → w3.grownBy w4 v2.ownBlock → w4.ownsRow B 9 1 v3 (i + 1 + (L.length - i)) (((L.take i).map .string ++ [.string s]) ++ (L.drop i).map .string) →
      w4.cell? ⟨b, 0, none⟩ = some (.slice ap L.length cap) ∧ w4.frozen? ⟨b, 0, none⟩ = false ∧ Rw (w4.setCell ⟨b, 0, none⟩ v3) b base v3 (L.take i ++ s :: L.drop i) ∧ (∀ q, v3.ownBlock = some q → w.heap.size ≤ q) ∧ Kept (fun q => q = b) w (w4.setCell ⟨b, 0, none⟩ v3) := by
    intro v2 xs v3 w3 w4 h1 h2 hr hg hr3
    have h4 := below_app0 h1 h2 hr hg
    have hbx : Boxed w4 b 45 _ := ((hBW _ h4).block _ hblt).trans hbox
    refine ⟨hbx.cell, hbx.frozen, ⟨hbx.set _, ?_⟩, fun q e => by rw [← hBe]; exact (hr3.lt q e).1, ?_⟩
    · have hx : (L.take i ++ s :: L.drop i).length = i + 1 + (L.length - i) := by simp; omega
      have hy : (L.take i ++ s :: L.drop i).map Value.string = ((L.take i).map .string ++ [.string s]) ++ (L.drop i).map .string := by simp
      rw [hx, hy]
      exact (ownsRow_lower hr3 (by omega)).kept (grownBy_setCell' w4 b _) (.inr (hbx.not_row (by decide) hr3).symm)
    · exact Kept.setCell (S := fun q => q = b) (Kept.of_below (hBW _ h4) (fun q h1 h2 => by omega)) (p := ⟨b, 0, none⟩) (fun _ => rfl) _
  have K1 := Lib.hid k1
  have K2 := Lib.hid k2
  have K3 := Lib.hid k3
  clear k1 k2 k3 hBW
  by_cases hci : cap = i
  · have hil : L.length - i = 0 := by omega
    have hX : (L.drop i).map Value.string = [] := by rw [List.drop_of_length_le (by omega)]; rfl
    rw [hX, hil] at K3
    have hl0 : L.length = i := by omega
    clear hX hil hs hn
    obtain rfl : i = cap := hci.symm
    clear hci
    go_enter Try.func42, Try.ntmps42
    go_wp2_with (first
      | (at_builtin; refine wpList_append_holds rfl _ _ 22 rfl B 9 i0 (.string ⟨#[]⟩) 16 Try.underlying22 hi hz0 hz1 hz2 rfl _ 0 [] rfl hmade ap i _ _ rfl hH1 hnil (oneCell_strings _) (by unfold maxLen; omega) (by omega) (by simp; omega) ?_; intro v1 w2 hr1 hg1; rw [Nat.zero_add, List.nil_append] at hr1; obtain ⟨hB2, hS2⟩ := K1.out w2 hg1; clear hg1)
      | (at_builtin; refine wpList_append_holds rfl _ _ 22 rfl B 9 i0 (.string ⟨#[]⟩) 16 Try.underlying22 hi hz0 hz1 hz2 rfl _ i _ rfl (hr1.alloc _) (some ⟨w2.heap.size, 0, none⟩) 1 1 [.string s] rfl (holds_fresh w2 9 [.string s]) (fun h => by cases h) (by simp [Value.oneCell']) (by unfold maxLen; omega) (by omega) (by simp; omega) ?_; intro v2 w3 hr2 hg2; obtain ⟨hB3, hS3, hc3, hBB⟩ := K2.out v1 w2 w3 hB2 hS2 hr1 hg2; clear hg2)
      | (at_builtin; refine wpList_append_holds rfl _ _ 22 rfl B 9 i0 (.string ⟨#[]⟩) 16 Try.underlying22 hi hz0 hz1 hz2 rfl _ (i + 1) _ rfl hr2 ap 0 0 [] rfl (holds_none _ _) (fun _ => rfl) (by simp) (by unfold maxLen; omega) (by omega) hS3 ?_; intro v3 w4 hr3 hg3; obtain ⟨g1, g2, g3, g4, g5⟩ := K3.out v2 _ v3 w3 w4 hB3 hS3 hr2 hg3 hr3; obtain ⟨ap', cap', rfl, _⟩ := ownsRow_form hr3; clear hr3 hg3))
    go_ret
    exact ⟨rfl, _, g3, g4, g5⟩
  · have hap : ap ≠ none := fun e => by have := hn e; omega
    obtain ⟨ad, rfl⟩ := Option.ne_none_iff_exists'.1 hap
    obtain ⟨q, cur, rfl, hh, ht, hsz, hbq⟩ := hs ad rfl
    have hH := holds_row hh ht (by simp) i (L.length - i) (by omega)
    have hX : ((L.map Value.string).drop i).take (L.length - i) = (L.drop i).map .string := by rw [List.take_of_length_le (by simp), List.map_drop]
    rw [hX] at hH
    clear hX hn hs hap
    go_enter Try.func42, Try.ntmps42
    go_wp2_with (first
      | (at_builtin; refine wpList_append_holds rfl _ _ 22 rfl B 9 i0 (.string ⟨#[]⟩) 16 Try.underlying22 hi hz0 hz1 hz2 rfl _ 0 [] rfl hmade _ i _ _ rfl hH1 hnil (oneCell_strings _) (by unfold maxLen; omega) (by omega) (by simp; omega) ?_; intro v1 w2 hr1 hg1; rw [Nat.zero_add, List.nil_append] at hr1; obtain ⟨hB2, hS2⟩ := K1.out w2 hg1; clear hg1)
      | (at_builtin; refine wpList_append_holds rfl _ _ 22 rfl B 9 i0 (.string ⟨#[]⟩) 16 Try.underlying22 hi hz0 hz1 hz2 rfl _ i _ rfl (hr1.alloc _) (some ⟨w2.heap.size, 0, none⟩) 1 1 [.string s] rfl (holds_fresh w2 9 [.string s]) (fun h => by cases h) (by simp [Value.oneCell']) (by unfold maxLen; omega) (by omega) (by simp; omega) ?_; intro v2 w3 hr2 hg2; obtain ⟨hB3, hS3, hc3, hBB⟩ := K2.out v1 w2 w3 hB2 hS2 hr1 hg2; have hH3 := hH.below hBB; clear hg2)
      | (at_builtin; refine wpList_append_holds rfl _ _ 22 rfl B 9 i0 (.string ⟨#[]⟩) 16 Try.underlying22 hi hz0 hz1 hz2 rfl _ (i + 1) _ rfl hr2 _ (L.length - i) _ _ rfl hH3 (fun h => by cases h) (oneCell_strings _) (by unfold maxLen; omega) (by omega) hS3 ?_; intro v3 w4 hr3 hg3; obtain ⟨g1, g2, g3, g4, g5⟩ := K3.out v2 _ v3 w3 w4 hB3 hS3 hr2 hg3 hr3; obtain ⟨ap', cap', rfl, _⟩ := ownsRow_form hr3; clear hr3 hg3))
    go_ret
    exact ⟨rfl, _, g3, g4, g5⟩
end Go.Proofs.Ytnleffjheimmbaa

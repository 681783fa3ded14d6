/- What 'walked' ranges over: the function that it hands to All and Back. -/
import Derived.Test.YtnleffjheimmbaaDq11s
import Derived.Outline
namespace Go.Proofs.Ytnleffjheimmbaa
open Go.RowKit Go.Shelf

/-- The boxes of a walk, from b on: which way, how many at most, what was told, whether its places were right, the next place; and the deque's pointer in Bd. -/
structure Wk (W : World) (b Bd : Nat) (back : Bool) (most a : Int) (xs : List ByteArray) (d : Option Addr) : Prop where
  b0 : Boxed W b 4 (.bool back)
  b1 : Boxed W (b + 1) 3 (.int .i64 most)
  b2 : ∃ v, Boxed W (b + 2) 22 v ∧ W.ownsRow b 9 1 v xs.length (xs.map .string)
  b3 : Boxed W (b + 3) 4 (.bool true)
  b4 : Boxed W (b + 4) 3 (.int .i64 a)
  bd : Boxed W Bd 24 (.pointer d)
  hd : b + 5 ≤ Bd

theorem Wk.drewN {W : World} {b Bd : Nat} {back : Bool} {most a : Int} {xs : List ByteArray} {d : Option Addr} (h : Wk W b Bd back most a xs d) (n : Nat) : Wk (W.drewN n) b Bd back most a xs d := ⟨h.b0, h.b1, h.b2, h.b3, h.b4, h.bd, h.hd⟩

theorem Wk.setAt {W : World} {b Bd : Nat} {back : Bool} {most a : Int} {xs : List ByteArray} {d : Option Addr} (h : Wk W b Bd back most a xs d) (a' : Int) : Wk (W.setCell ⟨b + 4, 0, none⟩ (.int .i64 a')) b Bd back most a' xs d := by
  obtain ⟨b0, b1, ⟨v, b2, hrow⟩, b3, b4, bd, hd⟩ := h
  exact ⟨b0.other (by omega) _, b1.other (by omega) _, ⟨v, b2.other (by omega) _, hrow.kept (grownBy_setCell' W (b + 4) _) (.inr (b4.not_row (by decide) hrow).symm)⟩, b3.other (by omega) _, b4.set _, bd.other (by omega) _, hd⟩

theorem wkInfo : (Try.prog.info? 9).map (fun i => (i.zero, i.size, i.bytes)) = some (some (.string ⟨#[]⟩), 1, 16) := by kernel_rfl

set_option maxHeartbeats 1600000 in
theorem wk1 (W : World) (b Bd : Nat) (back : Bool) (most a : Int) (xs : List ByteArray) (d : Option Addr) (s : ByteArray) (h : Wk W b Bd back most a xs d) (hxs : xs.length ≤ 1000000) (ha : -1 ≤ a) (ha' : a ≤ 5000000) :
    Calls Try.prog 35 #[.int .i64 a, .string s, .pointer (some ⟨b + 3, 0, none⟩), .pointer (some ⟨b + 4, 0, none⟩), .pointer (some ⟨b + 2, 0, none⟩), .pointer (some ⟨b, 0, none⟩), .pointer (some ⟨b + 1, 0, none⟩)] W
      fun e W' => e = .returned (.bool (decide ((xs.length : Int) + 1 < most))) ∧ Wk W' b Bd back most (if back then a - 1 else a + 1) (xs ++ [s]) d ∧ Below b W W' := by
  obtain ⟨i0, hi, hz0, hz1, hz2⟩ := info_parts wkInfo
  obtain ⟨b0, b1, ⟨v, b2, hrow⟩, b3, b4, bd, hd⟩ := h
  have c0 := b0.cell
  have c1 := b1.cell
  have c2 := b2.cell
  have c3 := b3.cell
  have c4 := b4.cell
  have f2 := b2.frozen
  have f3 := b3.frozen
  have f4 := b4.frozen
  have hlt := bd.lt
  have e2 := b2.other (B' := b + 3) (by omega) (.bool true)
  have hrow1 : (W.setCell ⟨b + 3, 0, none⟩ (.bool true)).ownsRow b 9 1 v xs.length (xs.map .string) := hrow.kept (grownBy_setCell' W (b + 3) _) (.inr (b3.not_row (by decide) hrow).symm)
  have hsz : (W.setCell ⟨b + 3, 0, none⟩ (.bool true)).heap.size = W.heap.size := by simp [World.setCell]
  have hB1 : Below b W (W.setCell ⟨b + 3, 0, none⟩ (.bool true)) := (Below.refl b W).setCell (p := ⟨b + 3, 0, none⟩) (by simp) _
  have key : ∀ v' w1, w1.ownsRow b 9 1 v' (xs.length + 1) (xs.map .string ++ [.string s]) → (((W.setCell ⟨b + 3, 0, none⟩ (.bool true)).alloc (.cells #[.string s] 9)).grownBy w1 v.ownBlock) →
      Boxed w1 (b + 2) 22 v ∧ Boxed w1 b 4 (.bool back) ∧ Boxed w1 (b + 4) 3 (.int .i64 a) ∧ Boxed w1 (b + 1) 3 (.int .i64 most) ∧ Wk (w1.setCell ⟨b + 2, 0, none⟩ v') b Bd back most a (xs ++ [s]) d ∧ Below b W (w1.setCell ⟨b + 2, 0, none⟩ v') := by
    intro v' w1 hown' hgrow
    obtain ⟨hv1, hv2, hr2, hk2, hb2⟩ := e2.appended (by decide) hrow1 (by rw [hsz]; omega) (by omega) hown' hgrow
    have ov : ∀ C t u, Boxed W C t u → t ≠ 9 → C ≠ b + 3 → Boxed w1 C t u := fun C t u h ht h3 =>
      (((h.other h3 (.bool true)).alloc _).kept hgrow ((h.other h3 (.bool true)).not_row ht hrow1))
    have ov3 : Boxed w1 (b + 3) 4 (.bool true) := (((b3.set (.bool true)).alloc _).kept hgrow ((b3.set (.bool true)).not_row (by decide) hrow1))
    refine ⟨hv1, ov _ _ _ b0 (by decide) (by omega), ov _ _ _ b4 (by decide) (by omega), ov _ _ _ b1 (by decide) (by omega), ⟨(ov _ _ _ b0 (by decide) (by omega)).other (by omega) _, (ov _ _ _ b1 (by decide) (by omega)).other (by omega) _, ⟨v', hv2, by simpa using hr2⟩, ov3.other (by omega) _, (ov _ _ _ b4 (by decide) (by omega)).other (by omega) _, (ov _ _ _ bd (by decide) (by omega)).other (by omega) _, hd⟩, hB1.trans hb2⟩
  have KEY := Lib.hid key
  clear key
  have hwa : IntKind.i64.wrap (a - 1) = a - 1 := IntWalk.i64_in _ (by omega)
  have hwb : IntKind.i64.wrap (a + 1) = a + 1 := IntWalk.i64_in _ (by omega)
  cases back
  all_goals go_enter Try.func35, Try.ntmps35
  all_goals go_wp2_with (at_builtin; refine wpList_append_own _ rfl _ _ 22 rfl b 9 i0 (.string ⟨#[]⟩) 1 16 Try.underlying22 hi hz0 hz1 hz2 rfl (by decide) v _ _ rfl (hrow1.alloc _) ⟨W.heap.size, 0, none⟩ 1 1 [.string s] rfl rfl (by rw [← hsz]; exact cell_one_new _ _ _) (by simp [Value.oneCell']) (by unfold maxLen; omega) (by omega) (by simp; omega) ?_; intro v' w1 hown' hgrow _; obtain ⟨g1, g2, g3, g6, g4, g5⟩ := KEY.out v' w1 hown' hgrow; obtain ⟨ap, cap, rfl, _⟩ := ownsRow_form hown'; clear hown' hgrow; have k2 := g1.cell; have kf := g1.frozen; have kb := g2.cell; have ka := g3.cell; have kaf := g3.frozen; have km := g6.cell; clear g1 g2 g3 g6)
  all_goals go_ret
  all_goals exact ⟨by simp, g4.setAt _, g5.setCell (p := ⟨b + 4, 0, none⟩) (by simp) _⟩
end Go.Proofs.Ytnleffjheimmbaa

/- A reader of requests: digits and escapes. -/
import Derived.Test.YtdfkdbdhaaiadaaDoorRe4
namespace Go.Proofs.YtdfkdbdhaaiadaaDoor
open Go.RowKit
attribute [local go_sem] fold_part fold_some fold_some' partAt_zero

theorem one8_conv (c : UInt8) (w : World) : (convert 22 9 (.slice (some ⟨w.heap.size, 0, none⟩) 1 1)).run Tryd.prog (w.alloc (.cells #[.int .u8 c.toNat] 5)) = .ok (.string (one8 c)) (w.alloc (.cells #[.int .u8 c.toNat] 5)) :=
  conv_bytes (l := [c]) _ 22 9 5 Tryd.underlying22 Tryd.underlying5 Tryd.underlying9 1 (holds_fresh w 5 [.int .u8 c.toNat])

/-- A digit of sixteen, or none. -/
def DigEnd (c : UInt8) (w : World) (e : Ending) (w' : World) : Prop :=
  Kept NoBlock w w' ∧ ∃ (n : Int) (b : Bool), e = .returned (.tuple #[.int .u8 n, .bool b]) ∧ 0 ≤ n ∧ n ≤ 255 ∧ ((b = true ∧ ∃ v, hexv c = some v ∧ n = (v : Int)) ∨ (b = false ∧ hexv c = none))

set_option maxHeartbeats 1600000 in
theorem pdigit (c : UInt8) (w : World) (hV : Vs w) :
    Calls Tryd.prog 77 #[.int .u8 c.toNat] w (DigEnd c w) := by
  have hconv := one8_conv c w
  have hb : Kept NoBlock w (w.alloc (.cells #[.int .u8 c.toNat] 5)) := (Kept.refl _ w).alloc _
  have hp := pparse16 c (w.alloc (.cells #[.int .u8 c.toNat] 5)) (hV.below hb.toB)
  go_enter Tryd.func77, Tryd.ntmps77
  go_wp2_with fail
  refine hp.mono ?_
  rintro e w1 ⟨n, ev, rfl, hk, h0, h1, hcase⟩
  have hw : IntKind.u8.wrap n = n := by unfold IntKind.wrap; simp [IntKind.signed, IntKind.bits]; omega
  have HK := Lib.hid (hb.trans hk)
  have HC := Lib.hid hcase
  clear hp hconv hb hk
  rcases hcase with ⟨rfl, _⟩ | ⟨⟨t, p, rfl⟩, _⟩
  · go_wp2
    go_quiet (fail)
    go_wp2
    go_ret2
    refine ⟨HK.out.drewN _, _, _, rfl, h0, h1, ?_⟩
    rcases HC.out with ⟨_, h⟩ | ⟨⟨_, _, h⟩, _⟩
    · exact .inl ⟨rfl, h⟩
    · cases h
  · go_wp2
    go_quiet (fail)
    go_wp2
    go_ret2
    refine ⟨HK.out.drewN _, _, _, rfl, h0, h1, ?_⟩
    rcases HC.out with ⟨h, _⟩ | ⟨_, h⟩
    · cases h
    · exact .inr ⟨rfl, h⟩

theorem or_all : ((List.range 16).all fun a => (List.range 16).all fun b => bits .or .u8 ((a : Int) * 16) (b : Int) == ((a * 16 + b : Nat) : Int)) = true := by decide +kernel
theorem or_hex (a b : Nat) (ha : a < 16) (hb : b < 16) : bits .or .u8 ((a : Int) * 16) (b : Int) = ((a * 16 + b : Nat) : Int) := by
  have h1 := List.all_eq_true.1 or_all a (List.mem_range.2 ha)
  have h2 := List.all_eq_true.1 h1 b (List.mem_range.2 hb)
  simpa using h2

theorem hex_lt {c : UInt8} {v : Nat} (h : hexv c = some v) : v < 16 := by
  rcases hex_some h with ⟨h1, h2, h3⟩ | ⟨h0, h1, h2, h3, h4⟩ <;> omega

/-- An element of a slice of bytes, where the walk looks for it. -/
theorem BytesV.at {w : World} {ad : Addr} {n cap : Nat} {l : List UInt8} (h : BytesV w (.slice (some ad) n cap) l) {i : Nat} {c : UInt8} (hi : l[i]? = some c) : w.cell? (ad.add i) = some (.int .u8 c.toNat) := by
  obtain ⟨ad', e, h1⟩ := RowV.cell h (i := i) (v := bv c) (by rw [List.getElem?_map, hi]; rfl)
  cases e
  exact h1

theorem BytesV.at0 {w : World} {ad : Addr} {n cap : Nat} {c : UInt8} {r : List UInt8} (h : BytesV w (.slice (some ad) n cap) (c :: r)) : w.cell? ad = some (.int .u8 c.toNat) := by
  have := h.at (i := 0) (c := c) rfl
  simpa [Addr.add] using this

theorem BytesV.atS {w : World} {ad : Addr} {n cap : Nat} {l : List UInt8} (h : BytesV w (.slice (some ad) n cap) l) (i : Nat) (hi0 : i ≠ 0) {c : UInt8} (hi : l[i]? = some c) : w.cell? ⟨ad.block, ad.off + i, none⟩ = some (.int .u8 c.toNat) := by
  have := h.at hi
  rwa [Addr.add, if_neg hi0] at this

theorem plainEsc_cases (c : UInt8) : ((c.toNat : Int) = 110 ∧ ((plainEsc c).toNat : Int) = 10) ∨ ((c.toNat : Int) = 114 ∧ ((plainEsc c).toNat : Int) = 13) ∨ ((c.toNat : Int) = 116 ∧ ((plainEsc c).toNat : Int) = 9) ∨
    ((c.toNat : Int) = 98 ∧ ((plainEsc c).toNat : Int) = 8) ∨ ((c.toNat : Int) = 97 ∧ ((plainEsc c).toNat : Int) = 7) ∨
    (¬ (c.toNat : Int) = 110 ∧ ¬ (c.toNat : Int) = 114 ∧ ¬ (c.toNat : Int) = 116 ∧ ¬ (c.toNat : Int) = 98 ∧ ¬ (c.toNat : Int) = 97 ∧ ((plainEsc c).toNat : Int) = c.toNat) := by
  have key : ∀ k : UInt8, c ≠ k → ¬ (c.toNat : Int) = k.toNat := fun k hk e => hk (UInt8.toNat_inj.1 (by omega))
  unfold plainEsc
  by_cases h1 : c = 110
  · subst h1; left; decide
  by_cases h2 : c = 114
  · subst h2; right; left; decide
  by_cases h3 : c = 116
  · subst h3; right; right; left; decide
  by_cases h4 : c = 98
  · subst h4; right; right; right; left; decide
  by_cases h5 : c = 97
  · subst h5; right; right; right; right; left; decide
  · right; right; right; right; right
    rw [if_neg h1, if_neg h2, if_neg h3, if_neg h4, if_neg h5]
    exact ⟨key 110 h1, key 114 h2, key 116 h3, key 98 h4, key 97 h5, rfl⟩

theorem BytesV.first {w : World} {v : Value} {c : UInt8} {r : List UInt8} (h : BytesV w v (c :: r)) : ∃ ad cap, v = .slice (some ad) (r.length + 1) cap ∧ r.length + 1 ≤ cap := by
  obtain ⟨ap, cap, rfl, h1, h2⟩ := h.parts
  cases ap with
  | none => have := h2 rfl; rw [List.length_cons] at h1; omega
  | some ad => exact ⟨ad, cap, rfl, h1⟩

set_option maxHeartbeats 1600000 in
theorem pesc_plain (v : Value) (c : UInt8) (r : List UInt8) (w : World) (h : BytesV w v (c :: r)) (hr : r.length ≤ 100000000) (hc : c ≠ 120 ∨ r.length < 2) :
    Calls Tryd.prog 71 #[v] w fun e w' => e = .returned (.tuple #[.int .u8 (plainEsc c).toNat, .int .i64 1]) ∧ w = w' := by
  obtain ⟨ad, cap, rfl, hcap⟩ := h.first
  have c0 := h.at0
  have hx : ¬ (c.toNat : Int) = 120 ∨ ¬ ((2 : Int) < (r.length : Int) + 1) := by
    rcases hc with hc | hc
    · left; intro e; exact hc (UInt8.toNat_inj.1 (by show c.toNat = 120; omega))
    · right; omega
  have hP := plainEsc_cases c
  clear h hc
  generalize r.length = n at *
  generalize hq : ((plainEsc c).toNat : Int) = q at *
  generalize hci : (c.toNat : Int) = ci at *
  clear hq hci
  rcases hP with ⟨rfl, rfl⟩ | ⟨rfl, rfl⟩ | ⟨rfl, rfl⟩ | ⟨rfl, rfl⟩ | ⟨rfl, rfl⟩ | ⟨h1, h2, h3, h4, h5, rfl⟩
  · clear hx
    go_enter Tryd.func71, Tryd.ntmps71
    go_wp2
    go_ret2
    exact ⟨rfl, rfl⟩
  · clear hx
    go_enter Tryd.func71, Tryd.ntmps71
    go_wp2
    go_ret2
    exact ⟨rfl, rfl⟩
  · clear hx
    go_enter Tryd.func71, Tryd.ntmps71
    go_wp2
    go_ret2
    exact ⟨rfl, rfl⟩
  · clear hx
    go_enter Tryd.func71, Tryd.ntmps71
    go_wp2
    go_ret2
    exact ⟨rfl, rfl⟩
  · clear hx
    go_enter Tryd.func71, Tryd.ntmps71
    go_wp2
    go_ret2
    exact ⟨rfl, rfl⟩
  · rcases hx with hx | hx
    · go_enter Tryd.func71, Tryd.ntmps71
      go_wp2
      go_ret2
      exact ⟨rfl, rfl⟩
    · go_enter Tryd.func71, Tryd.ntmps71
      go_wp2
      all_goals
        go_ret2
        exact ⟨rfl, rfl⟩

/-- 'x' and two more bytes. -/
theorem pesc_x (v : Value) (x y : UInt8) (r : List UInt8) (w : World) (hV : Vs w) (h : BytesV w v (120 :: x :: y :: r)) (hr : r.length ≤ 100000000) :
    Calls Tryd.prog 71 #[v] w fun e w' => e = .returned (.tuple #[.int .u8 (escaped 120 (x :: y :: r)).1.toNat, .int .i64 (escaped 120 (x :: y :: r)).2]) ∧ Kept NoBlock w w' := by
  obtain ⟨ad, cap, rfl, hcap⟩ := h.first
  have c0 := h.at0
  have c1 := h.atS 1 (by omega) (c := x) rfl
  have c2 := h.atS 2 (by omega) (c := y) rfl
  have hnx : ∀ w', Kept NoBlock w w' → w'.cell? ad = some (.int .u8 120) ∧ w'.cell? ⟨ad.block, ad.off + 2, none⟩ = some (.int .u8 y.toNat) := fun w' hk => ⟨(h.keptNo hk).at0, (h.keptNo hk).atS 2 (by omega) rfl⟩
  have HN := Lib.hid hnx
  clear h hnx
  have hesc : (∃ a b, hexv x = some a ∧ hexv y = some b ∧ (((escaped 120 (x :: y :: r)).1.toNat : Nat) : Int) = ((a * 16 + b : Nat) : Int) ∧ (((escaped 120 (x :: y :: r)).2 : Nat) : Int) = 3) ∨
      ((hexv x = none ∨ hexv y = none) ∧ (((escaped 120 (x :: y :: r)).1.toNat : Nat) : Int) = 120 ∧ (((escaped 120 (x :: y :: r)).2 : Nat) : Int) = 1) := by
    unfold escaped
    simp only [if_true]
    cases hx : hexv x with
    | none => right; exact ⟨.inl rfl, rfl, rfl⟩
    | some a =>
      cases hy : hexv y with
      | none => right; exact ⟨.inr rfl, rfl, rfl⟩
      | some b =>
        left
        have hal := hex_lt hx
        have hbl := hex_lt hy
        exact ⟨a, b, rfl, rfl, by simp only [UInt8.toNat_ofNat']; omega, rfl⟩
  generalize (((escaped 120 (x :: y :: r)).1.toNat : Nat) : Int) = q at *
  generalize (((escaped 120 (x :: y :: r)).2 : Nat) : Int) = k at *
  have HE := Lib.hid hesc
  clear hesc
  simp only [List.length_cons] at *
  generalize r.length = n at *
  have hd1 := pdigit x w hV
  go_enter Tryd.func71, Tryd.ntmps71
  go_wp2_with fail
  refine hd1.mono ?_
  rintro e w1 ⟨hk1, n1, b1, rfl, n10, n11, hb1⟩
  obtain ⟨d0, d2⟩ := HN.out w1 hk1
  have HB1 := Lib.hid hb1
  have HK1 := Lib.hid hk1
  have hd2 := pdigit y w1 (hV.below hk1.toB)
  clear hb1 hd1 c0 c1 c2 hk1
  go_wp2_with fail
  refine hd2.mono ?_
  rintro e w2 ⟨hk2, n2, b2, rfl, n20, n21, hb2⟩
  obtain ⟨e0, e2⟩ := HN.out w2 (HK1.out.trans hk2)
  have HB2 := Lib.hid hb2
  have HK2 := Lib.hid (HK1.out.trans hk2)
  clear hb2 hd2 d0 d2 hk2 HN
  rcases HB1.out with ⟨rfl, a, ha, rfl⟩ | ⟨rfl, ha⟩
  · rcases HB2.out with ⟨rfl, b, hb, rfl⟩ | ⟨rfl, hb⟩
    · have hal := hex_lt ha
      have hbl := hex_lt hb
      have hor := or_hex a b hal hbl
      have hsh : IntKind.u8.wrap ((a : Int) * 16) = (a : Int) * 16 := by unfold IntKind.wrap; simp [IntKind.signed, IntKind.bits]; omega
      obtain ⟨rfl, rfl⟩ : q = ((a * 16 + b : Nat) : Int) ∧ k = 3 := by
        rcases HE.out with ⟨a', b', h1, h2, h3, h4⟩ | ⟨h1 | h1, _⟩
        · rw [ha] at h1; rw [hb] at h2; cases h1; cases h2; exact ⟨h3, h4⟩
        · rw [ha] at h1; cases h1
        · rw [hb] at h1; cases h1
      have HOR := Lib.hid hor
      clear hor ha hb HB1 HB2 HE
      go_wp2
      go_ret2
      exact ⟨by rw [← HOR.out]; rfl, HK2.out⟩
    · obtain ⟨rfl, rfl⟩ : q = 120 ∧ k = 1 := by
        rcases HE.out with ⟨a', b', h1, h2, h3, h4⟩ | ⟨_, h⟩
        · rw [hb] at h2; cases h2
        · exact h
      clear ha hb HB1 HB2 HE
      go_wp2
      go_ret2
      exact ⟨rfl, HK2.out⟩
  · obtain ⟨rfl, rfl⟩ : q = 120 ∧ k = 1 := by
      rcases HE.out with ⟨a', b', h1, h2, h3, h4⟩ | ⟨_, h⟩
      · rw [ha] at h1; cases h1
      · exact h
    clear ha HB1 HE
    rcases HB2.out with ⟨rfl, _⟩ | ⟨rfl, _⟩
    · clear HB2
      go_wp2
      go_ret2
      exact ⟨rfl, HK2.out⟩
    · clear HB2
      go_wp2
      go_ret2
      exact ⟨rfl, HK2.out⟩

theorem pescaped (v : Value) (c : UInt8) (r : List UInt8) (w : World) (hV : Vs w) (h : BytesV w v (c :: r)) (hr : r.length ≤ 100000000) :
    Calls Tryd.prog 71 #[v] w fun e w' => e = .returned (.tuple #[.int .u8 (escaped c r).1.toNat, .int .i64 (escaped c r).2]) ∧ Kept NoBlock w w' := by
  by_cases hx : c = 120 ∧ 2 ≤ r.length
  · obtain ⟨rfl, hl⟩ := hx
    obtain ⟨x, y, r', rfl⟩ : ∃ x y r', r = x :: y :: r' := by
      rcases r with _ | ⟨x, _ | ⟨y, r'⟩⟩
      · simp at hl
      · simp at hl
      · exact ⟨_, _, _, rfl⟩
    exact pesc_x v x y r' w hV h (by simp at hr; omega)
  · have he : escaped c r = (plainEsc c, 1) := by
      unfold escaped
      by_cases hc : c = 120
      · rcases r with _ | ⟨x, _ | ⟨y, r'⟩⟩
        · simp
        · simp
        · exact absurd ⟨hc, by simp⟩ hx
      · simp [hc]
    rw [he]
    refine (pesc_plain v c r w h hr ?_).mono ?_
    · by_cases hc : c = 120
      · right; have : ¬ 2 ≤ r.length := fun h => hx ⟨hc, h⟩; omega
      · exact .inl hc
    · rintro e w' ⟨rfl, rfl⟩
      exact ⟨rfl, Kept.refl _ _⟩
end Go.Proofs.YtdfkdbdhaaiadaaDoor

/- Places, ranges, times, products, sums: the program's and the document's, each by a relation that tells its answer. -/
import Derived.Test.YtakfheljiobpkaaDoorNum2
namespace Go.Proofs.YtakfheljiobpkaaDoor
open Go.RowKit

def PlaceR (i n x : Int) (b : Bool) : Prop :=
  (b = true ∧ ((0 ≤ i ∧ i < n ∧ x = i) ∨ (i < 0 ∧ 0 ≤ i + n ∧ 0 ≤ n ∧ x = i + n))) ∨ (b = false ∧ x = 0 ∧ ((0 ≤ i ∧ n ≤ i) ∨ (i < 0 ∧ i + n < 0) ∨ n ≤ 0))

theorem PlaceR.same {i n x y : Int} {b c : Bool} (h : PlaceR i n x b) (k : PlaceR i n y c) : x = y ∧ b = c := by
  rcases h with ⟨rfl, h⟩ | ⟨rfl, rfl, h⟩ <;> rcases k with ⟨rfl, k⟩ | ⟨rfl, rfl, k⟩
  · exact ⟨by omega, rfl⟩
  · exfalso; omega
  · exfalso; omega
  · exact ⟨rfl, rfl⟩

def PlaceEnd (i n : Int) (w : World) (e : Ending) (w' : World) : Prop := ∃ x b, e = .returned (.tuple #[.int .i64 x, .bool b]) ∧ PlaceR i n x b ∧ w = w'

def In64 (i : Int) : Prop := -9223372036854775808 ≤ i ∧ i ≤ 9223372036854775807

set_option maxHeartbeats 1600000 in
theorem nplace (i n : Int) (w : World) (hi : In64 i) (hn : In64 n) : Calls Tryd.prog 21 #[.int .i64 i, .int .i64 n] w (PlaceEnd i n w) := by
  obtain ⟨h1, h2⟩ := hi
  obtain ⟨h3, h4⟩ := hn
  by_cases d : i < 0
  all_goals
    go_enter Tryd.func21, Tryd.ntmps21
    go_wp2
    all_goals go_ret2
    all_goals exact ⟨_, _, rfl, by unfold PlaceR; simp; omega, rfl⟩

set_option maxHeartbeats 1600000 in
theorem nrplace (i n : Int) (w : World) (hi : In64 i) (hn : In64 n) : Calls Tryd.prog 22 #[.int .i64 i, .int .i64 n] w (PlaceEnd i n w) := by
  obtain ⟨h1, h2⟩ := hi
  obtain ⟨h3, h4⟩ := hn
  by_cases d : i < 0 <;> by_cases c : n < 0
  all_goals
    go_enter Tryd.func22, Tryd.ntmps22
    go_wp2
    all_goals go_ret2
    all_goals exact ⟨_, _, rfl, by unfold PlaceR; simp; omega, rfl⟩

def RangeR (f l n x y : Int) : Prop :=
  (n ≤ 0 → x = 0 ∧ y = 0) ∧ (0 < n → 0 ≤ f → 0 ≤ l → ((f ≤ min l (n - 1) ∧ f < n ∧ x = f ∧ y = min l (n - 1) + 1) ∨ ((min l (n - 1) < f ∨ n ≤ f) ∧ x = 0 ∧ y = 0))) ∧ (0 < n → 0 ≤ f → l < 0 → ((f ≤ min (l + n) (n - 1) ∧ f < n ∧ x = f ∧ y = min (l + n) (n - 1) + 1) ∨ ((min (l + n) (n - 1) < f ∨ n ≤ f) ∧ x = 0 ∧ y = 0))) ∧ (0 < n → f < 0 → 0 ≤ l → ((max (f + n) 0 ≤ min l (n - 1) ∧ max (f + n) 0 < n ∧ x = max (f + n) 0 ∧ y = min l (n - 1) + 1) ∨ ((min l (n - 1) < max (f + n) 0 ∨ n ≤ max (f + n) 0) ∧ x = 0 ∧ y = 0))) ∧ (0 < n → f < 0 → l < 0 → ((max (f + n) 0 ≤ min (l + n) (n - 1) ∧ max (f + n) 0 < n ∧ x = max (f + n) 0 ∧ y = min (l + n) (n - 1) + 1) ∨ ((min (l + n) (n - 1) < max (f + n) 0 ∨ n ≤ max (f + n) 0) ∧ x = 0 ∧ y = 0)))
def RangeEnd (f l n : Int) (w : World) (e : Ending) (w' : World) : Prop := ∃ x y, e = .returned (.tuple #[.int .i64 x, .int .i64 y]) ∧ RangeR f l n x y ∧ w = w'

theorem RangeR.same {f l n x y x' y' : Int} (h : RangeR f l n x y) (k : RangeR f l n x' y') : x = x' ∧ y = y' := by
  obtain ⟨h0, h1, h2, h3, h4⟩ := h
  obtain ⟨k0, k1, k2, k3, k4⟩ := k
  by_cases c : n ≤ 0
  · have a := h0 c; have b := k0 c; clear h0 h1 h2 h3 h4 k0 k1 k2 k3 k4; omega
  · by_cases d : f < 0 <;> by_cases e : l < 0
    · have a := h4 (by omega) d e; have b := k4 (by omega) d e; clear h0 h1 h2 h3 h4 k0 k1 k2 k3 k4; omega
    · have a := h3 (by omega) d (by omega); have b := k3 (by omega) d (by omega); clear h0 h1 h2 h3 h4 k0 k1 k2 k3 k4; omega
    · have a := h2 (by omega) (by omega) e; have b := k2 (by omega) (by omega) e; clear h0 h1 h2 h3 h4 k0 k1 k2 k3 k4; omega
    · have a := h1 (by omega) (by omega) (by omega); have b := k1 (by omega) (by omega) (by omega); clear h0 h1 h2 h3 h4 k0 k1 k2 k3 k4; omega

set_option maxHeartbeats 3200000 in
theorem nrange (f l n : Int) (w : World) (hf : In64 f) (hl : In64 l) (hn : In64 n) : Calls Tryd.prog 23 #[.int .i64 f, .int .i64 l, .int .i64 n] w (RangeEnd f l n w) := by
  obtain ⟨h1, h2⟩ := hf
  obtain ⟨h3, h4⟩ := hl
  obtain ⟨h5, h6⟩ := hn
  by_cases c : n ≤ 0
  · go_enter Tryd.func23, Tryd.ntmps23
    go_wp2
    all_goals go_ret2
    all_goals exact ⟨_, _, rfl, by unfold RangeR; omega, rfl⟩
  · by_cases d : f < 0 <;> by_cases e : l < 0
    all_goals
      go_enter Tryd.func23, Tryd.ntmps23
      go_wp2
      all_goals go_ret2
      all_goals exact ⟨_, _, rfl, by unfold RangeR; omega, rfl⟩

set_option maxHeartbeats 3200000 in
theorem nrrange (f l n : Int) (w : World) (hf : In64 f) (hl : In64 l) (hn : In64 n) : Calls Tryd.prog 24 #[.int .i64 f, .int .i64 l, .int .i64 n] w (RangeEnd f l n w) := by
  obtain ⟨h1, h2⟩ := hf
  obtain ⟨h3, h4⟩ := hl
  obtain ⟨h5, h6⟩ := hn
  by_cases c : n ≤ 0
  · go_enter Tryd.func24, Tryd.ntmps24
    go_wp2
    all_goals go_ret2
    all_goals exact ⟨_, _, rfl, by unfold RangeR; omega, rfl⟩
  · by_cases d : f < 0 <;> by_cases e : l < 0
    all_goals
      go_enter Tryd.func24, Tryd.ntmps24
      go_wp2
      all_goals go_ret2
      all_goals exact ⟨_, _, rfl, by unfold RangeR; omega, rfl⟩

def MilliR (now n : Int) (sec : Bool) (x y : Int) : Prop :=
  ((now < 0 ∨ 1099511627776 < now) → x = 0 ∧ y = 1) ∧ (0 ≤ now → now ≤ 1099511627776 → ((n < -1099511627776 ∨ 1099511627776 < n) → x = 0 ∧ y = 11) ∧
    (-1099511627776 ≤ n → n ≤ 1099511627776 → ((sec = true → (1099511627776 < now + n * 1000 → x = 0 ∧ y = 5) ∧ (now + n * 1000 ≤ 1099511627776 → x = max (now + n * 1000) 0 ∧ y = 0)) ∧
      (sec = false → (1099511627776 < now + n → x = 0 ∧ y = 5) ∧ (now + n ≤ 1099511627776 → x = max (now + n) 0 ∧ y = 0)))))
def MilliEnd (now n : Int) (sec : Bool) (w : World) (e : Ending) (w' : World) : Prop := ∃ x y, e = .returned (.tuple #[.int .i64 x, .int .i64 y]) ∧ MilliR now n sec x y ∧ w = w'

theorem MilliR.same {now n : Int} {sec : Bool} {x y x' y' : Int} (h : MilliR now n sec x y) (k : MilliR now n sec x' y') : x = x' ∧ y = y' := by
  unfold MilliR at h k
  cases sec
  · simp only [reduceCtorEq, false_implies, true_and, true_implies] at h k
    omega
  · simp only [reduceCtorEq, false_implies, and_true, true_implies] at h k
    omega

set_option maxHeartbeats 3200000 in
theorem nmilli (now n : Int) (sec : Bool) (w : World) (hf : In64 now) (hl : In64 n) : Calls Tryd.prog 19 #[.int .i64 now, .int .i64 n, .bool sec] w (MilliEnd now n sec w) := by
  obtain ⟨h1, h2⟩ := hf
  obtain ⟨h3, h4⟩ := hl
  by_cases c : now < 0 ∨ 1099511627776 < now
  · rcases c with c | c
    all_goals
      go_enter Tryd.func19, Tryd.ntmps19
      go_wp2
      all_goals go_ret2
      all_goals exact ⟨_, _, rfl, by unfold MilliR; omega, rfl⟩
  · have c1 : 0 ≤ now := by omega
    have c2 : now ≤ 1099511627776 := by omega
    clear c
    by_cases d : n < -1099511627776 ∨ 1099511627776 < n
    · rcases d with d | d
      all_goals
        go_enter Tryd.func19, Tryd.ntmps19
        go_wp2
        all_goals go_ret2
        all_goals exact ⟨_, _, rfl, by unfold MilliR; omega, rfl⟩
    · have d1 : -1099511627776 ≤ n := by omega
      have d2 : n ≤ 1099511627776 := by omega
      clear d
      cases sec
      all_goals
        go_enter Tryd.func19, Tryd.ntmps19
        go_wp2
        all_goals go_ret2
        all_goals exact ⟨_, _, rfl, by unfold MilliR; simp only [reduceCtorEq, false_implies, true_and, and_true, true_implies]; (constructor <;> intros <;> first | omega | (constructor <;> intros <;> first | omega | (constructor <;> intros <;> first | omega | trivial))), rfl⟩

set_option maxHeartbeats 3200000 in
theorem nrmilli (now n : Int) (sec : Bool) (w : World) (hf : In64 now) (hl : In64 n) : Calls Tryd.prog 20 #[.int .i64 now, .int .i64 n, .bool sec] w (MilliEnd now n sec w) := by
  obtain ⟨h1, h2⟩ := hf
  obtain ⟨h3, h4⟩ := hl
  by_cases c : now < 0 ∨ 1099511627776 < now
  · rcases c with c | c
    all_goals
      go_enter Tryd.func20, Tryd.ntmps20
      go_wp2
      all_goals go_ret2
      all_goals exact ⟨_, _, rfl, by unfold MilliR; omega, rfl⟩
  · have c1 : 0 ≤ now := by omega
    have c2 : now ≤ 1099511627776 := by omega
    clear c
    by_cases d : n < -1099511627776 ∨ 1099511627776 < n
    · rcases d with d | d
      all_goals
        go_enter Tryd.func20, Tryd.ntmps20
        go_wp2
        all_goals go_ret2
        all_goals exact ⟨_, _, rfl, by unfold MilliR; omega, rfl⟩
    · have d1 : -1099511627776 ≤ n := by omega
      have d2 : n ≤ 1099511627776 := by omega
      clear d
      cases sec
      all_goals
        go_enter Tryd.func20, Tryd.ntmps20
        go_wp2
        all_goals go_ret2
        all_goals exact ⟨_, _, rfl, by unfold MilliR; simp only [reduceCtorEq, false_implies, true_and, and_true, true_implies]; (constructor <;> intros <;> first | omega | (constructor <;> intros <;> first | omega | (constructor <;> intros <;> first | omega | trivial))), rfl⟩

def TimesR (a b p q x y : Int) : Prop :=
  ((a = 0 ∨ b = 0) → x = 0 ∧ y = 0) ∧ (a ≠ 0 → b ≠ 0 → (((a = -1 ∧ b = -9223372036854775808) ∨ (b = -1 ∧ a = -9223372036854775808) ∨ q ≠ a) → x = 0 ∧ y = 11) ∧
    ((¬ (a = -1 ∧ b = -9223372036854775808) ∧ ¬ (b = -1 ∧ a = -9223372036854775808) ∧ q = a) → x = p ∧ y = 0))
def TimesEnd (a b : Int) (w : World) (e : Ending) (w' : World) : Prop := ∃ x y, e = .returned (.tuple #[.int .i64 x, .int .i64 y]) ∧ TimesR a b (wrap64 (a * b)) (wrap64 ((wrap64 (a * b)).tdiv b)) x y ∧ w = w'

theorem TimesR.same {a b p q x y x' y' : Int} (h : TimesR a b p q x y) (k : TimesR a b p q x' y') : x = x' ∧ y = y' := by
  unfold TimesR at h k
  omega

set_option maxHeartbeats 3200000 in
theorem ntimes (a b : Int) (w : World) (ha : In64 a) (hb : In64 b) : Calls Tryd.prog 17 #[.int .i64 a, .int .i64 b] w (TimesEnd a b w) := by
  obtain ⟨h1, h2⟩ := ha
  obtain ⟨h3, h4⟩ := hb
  by_cases ca : a = 0
  · subst ca
    go_enter Tryd.func17, Tryd.ntmps17
    go_wp2
    go_ret2
    exact ⟨_, _, rfl, by unfold TimesR; omega, rfl⟩
  by_cases cb : b = 0
  · subst cb
    go_enter Tryd.func17, Tryd.ntmps17
    go_wp2
    go_ret2
    exact ⟨_, _, rfl, by unfold TimesR; omega, rfl⟩
  unfold TimesEnd
  have ha0 : (a == 0) = false := by simpa using ca
  have hb0 : (b == 0) = false := by simpa using cb
  obtain ⟨p, hp⟩ : ∃ p, p = wrap64 (a * b) := ⟨_, rfl⟩
  rw [← hp]
  obtain ⟨q, hq⟩ : ∃ q, q = wrap64 (p.tdiv b) := ⟨_, rfl⟩
  rw [← hq]
  have hp' : IntKind.i64.wrap (a * b) = p := by rw [hp]; exact IntWalk.i64_left _
  have hq' : IntKind.i64.wrap (p.tdiv b) = q := by rw [hq]; exact IntWalk.i64_left _
  have hp2 : wrap64 (a * b) = p := hp.symm
  have hq2 : wrap64 (p.tdiv b) = q := hq.symm
  clear hp hq
  cases c1 : (a == -1)
  all_goals
    cases c2 : (b == -9223372036854775808)
    all_goals
      cases c3 : (b == -1)
      all_goals
        cases c4 : (a == -9223372036854775808)
        all_goals
          cases c5 : (q != a)
          all_goals
            go_enter Tryd.func17, Tryd.ntmps17
            go_wp2
            go_ret2
            exact ⟨_, _, rfl, (by simp only [beq_iff_eq, beq_eq_false_iff_ne, ne_eq, bne_iff_ne, bne_eq_false_iff_eq] at c1 c2 c3 c4 c5; unfold TimesR; omega), rfl⟩

set_option maxHeartbeats 3200000 in
theorem nrtimes (a b : Int) (w : World) (ha : In64 a) (hb : In64 b) : Calls Tryd.prog 18 #[.int .i64 a, .int .i64 b] w (TimesEnd a b w) := by
  obtain ⟨h1, h2⟩ := ha
  obtain ⟨h3, h4⟩ := hb
  by_cases ca : a = 0
  · subst ca
    go_enter Tryd.func18, Tryd.ntmps18
    go_wp2
    go_ret2
    exact ⟨_, _, rfl, by unfold TimesR; omega, rfl⟩
  by_cases cb : b = 0
  · subst cb
    go_enter Tryd.func18, Tryd.ntmps18
    go_wp2
    go_ret2
    exact ⟨_, _, rfl, by unfold TimesR; omega, rfl⟩
  unfold TimesEnd
  have ha0 : (a == 0) = false := by simpa using ca
  have hb0 : (b == 0) = false := by simpa using cb
  obtain ⟨p, hp⟩ : ∃ p, p = wrap64 (a * b) := ⟨_, rfl⟩
  rw [← hp]
  obtain ⟨q, hq⟩ : ∃ q, q = wrap64 (p.tdiv b) := ⟨_, rfl⟩
  rw [← hq]
  have hp' : IntKind.i64.wrap (a * b) = p := by rw [hp]; exact IntWalk.i64_left _
  have hq' : IntKind.i64.wrap (p.tdiv b) = q := by rw [hq]; exact IntWalk.i64_left _
  have hp2 : wrap64 (a * b) = p := hp.symm
  have hq2 : wrap64 (p.tdiv b) = q := hq.symm
  clear hp hq
  cases c1 : (a == -1)
  all_goals
    cases c2 : (b == -9223372036854775808)
    all_goals
      cases c3 : (b == -1)
      all_goals
        cases c4 : (a == -9223372036854775808)
        all_goals
          cases c5 : (q != a)
          all_goals
            go_enter Tryd.func18, Tryd.ntmps18
            go_wp2
            go_ret2
            exact ⟨_, _, rfl, (by simp only [beq_iff_eq, beq_eq_false_iff_ne, ne_eq, bne_iff_ne, bne_eq_false_iff_eq] at c1 c2 c3 c4 c5; unfold TimesR; omega), rfl⟩

end Go.Proofs.YtakfheljiobpkaaDoor

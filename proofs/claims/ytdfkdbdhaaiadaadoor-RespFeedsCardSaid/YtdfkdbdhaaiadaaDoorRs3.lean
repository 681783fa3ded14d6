/- The document's requests: what a backslash says. -/
import Derived.Test.YtdfkdbdhaaiadaaDoorRs1
namespace Go.Proofs.YtdfkdbdhaaiadaaDoor
open Go.RowKit
attribute [local go_sem] fold_part fold_some fold_some' partAt_zero

theorem str_at {S : ByteArray} {l : Bs} (hS : S = ⟨l.toArray⟩) {i : Nat} {c : UInt8} (h : l[i]? = some c) : ∃ hi : i < S.size, S[i]'hi = c := by
  subst hS
  obtain ⟨hl, e⟩ := List.getElem?_eq_some_iff.1 h
  exact ⟨hl, by rw [← e]; rfl⟩
theorem str_size {S : ByteArray} {l : Bs} (hS : S = ⟨l.toArray⟩) : S.size = l.length := by subst hS; rfl
theorem rdigit' (c : UInt8) (w : World) : Calls Tryd.prog 66 #[.int .u8 c.toNat] w fun e w' => e = .returned (.int .i64 (hexI c)) ∧ w' = w :=
  (rdigit c w).mono fun _ _ ⟨a, b⟩ => ⟨a, b.symm⟩

/-- A backslash at the end. -/
theorem resc_end (l : Bs) (k : Nat) (hk : l.length ≤ k + 1) (hl : k ≤ 100000000) (w : World) :
    Calls Tryd.prog 57 #[.string ⟨l.toArray⟩, .int .i64 k] w fun e w' => e = .returned (.tuple #[.int .u8 92, .int .i64 1]) ∧ w = w' := by
  obtain ⟨S, hS⟩ : ∃ S : ByteArray, S = ⟨l.toArray⟩ := ⟨_, rfl⟩
  have hsz := str_size hS
  rw [← hS]
  have h1 : S.size ≤ k + 1 := by omega
  have h2 : ¬ ((k : Int) + 1 < S.size) := by omega
  clear hS hsz hk
  go_enter Tryd.func57, Tryd.ntmps57
  go_wp2
  go_ret2
  exact ⟨rfl, rfl⟩

set_option maxHeartbeats 3200000 in
/-- A byte behind a backslash that stands alone. -/
theorem resc_plain (l : Bs) (k : Nat) (c : UInt8) (r : Bs) (hr : l.drop (k + 1) = c :: r) (hl : l.length ≤ 100000000) (he : escaped c r = (plainEsc c, 1)) (w : World) :
    Calls Tryd.prog 57 #[.string ⟨l.toArray⟩, .int .i64 k] w fun e w' => e = .returned (.tuple #[.int .u8 (plainEsc c).toNat, .int .i64 2]) ∧ w = w' := by
  obtain ⟨S, hS⟩ : ∃ S : ByteArray, S = ⟨l.toArray⟩ := ⟨_, rfl⟩
  have hsz := str_size hS
  rw [← hS]
  have hdl := congrArg List.length hr
  rw [List.length_drop, List.length_cons] at hdl
  have hat : ∀ j, (c :: r)[j]? = l[k + 1 + j]? := fun j => by rw [← hr, List.getElem?_drop]
  obtain ⟨hi1, e1⟩ := str_at hS (i := k + 1) (c := c) (by have := hat 0; simpa using this.symm)
  have hk6 : k ≤ 100000000 := by omega
  have hpe := plainEsc_cases c
  have fin : ∀ (Q : Prop), True := fun _ => trivial
  have hsz1 : k + 1 < S.size := hi1
  have hszI : (k : Int) + 1 < (S.size : Int) := by omega
  have hS6 : S.size ≤ 100000000 := by omega
  by_cases hx : c = 120 ∧ 2 ≤ r.length
  · obtain ⟨rfl, h2⟩ := hx
    obtain ⟨x, y, r', rfl⟩ : ∃ x y r', r = x :: y :: r' := by
      rcases r with _ | ⟨x, _ | ⟨y, r'⟩⟩
      · simp at h2
      · simp at h2
      · exact ⟨_, _, _, rfl⟩
    obtain ⟨hi2, e2⟩ := str_at hS (i := k + 2) (c := x) (by have := hat 1; simpa using this.symm)
    obtain ⟨hi3, e3⟩ := str_at hS (i := k + 3) (c := y) (by have := hat 2; simpa using this.symm)
    have hxy : hexI x = -1 ∨ (∃ n : Nat, hexI x = n ∧ hexI y = -1) := by
      unfold hexI
      cases h3 : hexv x with
      | none => exact .inl rfl
      | some a =>
        cases h4 : hexv y with
        | none => exact .inr ⟨a, rfl, rfl⟩
        | some b =>
          unfold escaped at he
          simp [h3, h4] at he
    have hp : (plainEsc 120).toNat = 120 := rfl
    rw [hp]
    have d1 := rdigit x w
    have d2 := rdigit y w
    generalize hexI x = X at *
    generalize hexI y = Y at *
    have D1 := Lib.hid d1
    have D2 := Lib.hid d2
    have hk3 : (k : Int) + 3 < (S.size : Int) := by omega
    clear hat hr hS hsz hdl hpe he d1 d2 fin
    rcases hxy with rfl | ⟨n, rfl, rfl⟩
    · go_enter Tryd.func57, Tryd.ntmps57
      go_wp2_with (go_at_call 66; refine D1.out.mono ?_; rintro e w' ⟨rfl, rfl⟩)
      go_ret2
      exact ⟨rfl, rfl⟩
    · go_enter Tryd.func57, Tryd.ntmps57
      go_wp2_with (go_at_call 66; first | ((with_reducible refine D1.out.mono ?_); rintro e w' ⟨rfl, rfl⟩) | ((with_reducible refine D2.out.mono ?_); rintro e w' ⟨rfl, rfl⟩))
      go_ret2
      exact ⟨rfl, rfl⟩
  · have hx' : ¬ (c.toNat : Int) = 120 ∨ ¬ ((k : Int) + 3 < (S.size : Int)) := by
      by_cases hc : c = 120
      · right
        have : ¬ 2 ≤ r.length := fun h => hx ⟨hc, h⟩
        omega
      · left; intro e; exact hc (UInt8.toNat_inj.1 (by show c.toNat = 120; omega))
    have e1' : ((S[k + 1]'hi1).toNat : Int) = c.toNat := by rw [e1]
    clear hat hr hS hsz hdl he fin e1 hx
    generalize hq : ((plainEsc c).toNat : Int) = q at *
    generalize hci : (c.toNat : Int) = ci at *
    clear hq hci
    rcases hpe with ⟨rfl, rfl⟩ | ⟨rfl, rfl⟩ | ⟨rfl, rfl⟩ | ⟨rfl, rfl⟩ | ⟨rfl, rfl⟩ | ⟨h1, h2, h3, h4, h5, rfl⟩
    iterate 5
      · clear hx'
        go_enter Tryd.func57, Tryd.ntmps57
        go_wp2
        go_ret2
        exact ⟨rfl, rfl⟩
    rcases hx' with hx' | hx'
    · go_enter Tryd.func57, Tryd.ntmps57
      go_wp2
      go_ret2
      exact ⟨rfl, rfl⟩
    · go_enter Tryd.func57, Tryd.ntmps57
      go_wp2
      all_goals
        go_ret2
        exact ⟨rfl, rfl⟩

theorem hexv_lt {c : UInt8} {a : Nat} (h : hexv c = some a) : a < 16 := hex_lt h

set_option maxRecDepth 100000 in
set_option maxHeartbeats 3200000 in
/-- 'x' and two digits. -/
theorem resc_hex (l : Bs) (k : Nat) (x y : UInt8) (r : Bs) (hr : l.drop (k + 1) = 120 :: x :: y :: r) (hl : l.length ≤ 100000000) (a b : Nat) (ha : hexv x = some a) (hb : hexv y = some b) (w : World) :
    Calls Tryd.prog 57 #[.string ⟨l.toArray⟩, .int .i64 k] w fun e w' => e = .returned (.tuple #[.int .u8 ((a : Int) * 16 + (b : Int)), .int .i64 4]) ∧ Kept NoBlock w w' := by
  obtain ⟨S, hS⟩ : ∃ S : ByteArray, S = ⟨l.toArray⟩ := ⟨_, rfl⟩
  have hsz := str_size hS
  rw [← hS]
  have hdl := congrArg List.length hr
  simp only [List.length_drop, List.length_cons] at hdl
  have hat : ∀ j, (120 :: x :: y :: r)[j]? = l[k + 1 + j]? := fun j => by rw [← hr, List.getElem?_drop]
  obtain ⟨hi1, e1⟩ := str_at hS (i := k + 1) (c := 120) (by have := hat 0; simpa using this.symm)
  obtain ⟨hi2, e2⟩ := str_at hS (i := k + 2) (c := x) (by have := hat 1; simpa using this.symm)
  obtain ⟨hi3, e3⟩ := str_at hS (i := k + 3) (c := y) (by have := hat 2; simpa using this.symm)
  have hk6 : k ≤ 100000000 := by omega
  have hszI : (k : Int) + 1 < (S.size : Int) := by omega
  have hk3 : (k : Int) + 3 < (S.size : Int) := by omega
  have hS6 : S.size ≤ 100000000 := by omega
  have hsz1 : k + 1 < S.size := hi1
  have d1 := rdigit x
  have d2 := rdigit y
  have d3 := rdigit' x
  have d4 := rdigit' y
  have ex : hexI x = a := by unfold hexI; rw [ha]
  have ey : hexI y = b := by unfold hexI; rw [hb]
  rw [ex] at d1 d3
  rw [ey] at d2 d4
  have D1 := Lib.hid d1
  have D2 := Lib.hid d2
  have D3 := Lib.hid d3
  have D4 := Lib.hid d4
  have ha6 : a ≤ 15 := by have := hexv_lt ha; omega
  have hb6 : b ≤ 15 := by have := hexv_lt hb; omega
  have q1 : IntKind.i64.wrap ((a : Int) * 16) = (a : Int) * 16 := IntWalk.i64_in _ (by omega)
  have q2 : IntKind.i64.wrap ((a : Int) * 16 + (b : Int)) = (a : Int) * 16 + (b : Int) := IntWalk.i64_in _ (by omega)
  have q3 : IntKind.u8.wrap ((a : Int) * 16 + (b : Int)) = (a : Int) * 16 + (b : Int) := by simp [IntKind.wrap, IntKind.bits, IntKind.signed]; omega
  clear hat hr hS hsz hdl ha hb d1 d2 d3 d4 ex ey
  go_enter Tryd.func57, Tryd.ntmps57
  go_wp2_with (go_at_call 66; first | ((with_reducible refine (D1.out _).mono ?_); rintro e w' ⟨rfl, rfl⟩) | ((with_reducible refine (D2.out _).mono ?_); rintro e w' ⟨rfl, rfl⟩))
  go_quiet ((go_at_call 66; first | (with_reducible exact Calls.quiet_of_same (D3.out _)) | (with_reducible exact Calls.quiet_of_same (D4.out _))))
  go_wp2
  go_ret2
  exact ⟨rfl, (Kept.refl NoBlock w).drewN _⟩

/-- The byte that a backslash stands for, and how many bytes say it. -/
def escM : Bs → UInt8 × Nat
  | [] => (92, 1)
  | c :: r => ((escaped c r).1, (escaped c r).2 + 1)

theorem escaped_ways (c : UInt8) (r : Bs) : escaped c r = (plainEsc c, 1) ∨ ∃ x y r' a b, c = 120 ∧ r = x :: y :: r' ∧ hexv x = some a ∧ hexv y = some b ∧ escaped c r = (UInt8.ofNat (a * 16 + b), 3) := by
  by_cases hc : c = 120
  · subst hc
    rcases r with _ | ⟨x, _ | ⟨y, r'⟩⟩
    · left; unfold escaped; simp
    · left; unfold escaped; simp
    · cases h3 : hexv x with
      | none => left; unfold escaped; simp [h3]
      | some a =>
        cases h4 : hexv y with
        | none => left; unfold escaped; simp [h3, h4]
        | some b => right; exact ⟨x, y, r', a, b, rfl, rfl, h3, h4, by unfold escaped; simp [h3, h4]⟩
  · left; unfold escaped; simp [hc]

theorem rescape (l : Bs) (k : Nat) (hl : l.length ≤ 100000000) (hk : k ≤ 100000000) (w : World) :
    Calls Tryd.prog 57 #[.string ⟨l.toArray⟩, .int .i64 k] w fun e w' => e = .returned (.tuple #[.int .u8 (escM (l.drop (k + 1))).1.toNat, .int .i64 (escM (l.drop (k + 1))).2]) ∧ Kept NoBlock w w' := by
  cases hr : l.drop (k + 1) with
  | nil =>
    have := congrArg List.length hr
    rw [List.length_drop, List.length_nil] at this
    refine (resc_end l k (by omega) hk w).mono ?_
    rintro e w' ⟨rfl, rfl⟩
    exact ⟨rfl, Kept.refl _ _⟩
  | cons c r =>
    rcases escaped_ways c r with h | ⟨x, y, r', a, b, rfl, rfl, ha, hb, h⟩
    · refine (resc_plain l k c r hr hl h w).mono ?_
      rintro e w' ⟨rfl, rfl⟩
      refine ⟨?_, Kept.refl _ _⟩
      simp only [escM, h]
      rfl
    · refine (resc_hex l k x y r' hr hl a b ha hb w).mono ?_
      rintro e w' ⟨rfl, hk⟩
      refine ⟨?_, hk⟩
      have h1 := hexv_lt ha
      have h2 := hexv_lt hb
      simp only [escM, h]
      rw [UInt8.toNat_ofNat', Nat.mod_eq_of_lt (by omega)]
      simp
end Go.Proofs.YtdfkdbdhaaiadaaDoor

/- A digit of sixteen, by the library. -/
import Derived.Test.YtdfkdbdhaaiadaaDoorRe3
import Derived.Lib.ConvBytes
namespace Go.Proofs.YtdfkdbdhaaiadaaDoor
open Go.RowKit
attribute [local go_sem] fold_part fold_some fold_some' partAt_zero

/-- The bit 32 set. -/
def low (c : Nat) : Int := bits .or .u8 (c : Int) 32

def hexn (c : Nat) : Option Nat :=
  if 48 ≤ c ∧ c ≤ 57 then some (c - 48)
  else if 97 ≤ c ∧ c ≤ 102 then some (c - 87)
  else if 65 ≤ c ∧ c ≤ 70 then some (c - 55)
  else none

def hexOk (c : Nat) : Bool := match hexn c with
  | some v => (decide (48 ≤ c) && decide (c ≤ 57) && decide (v = c - 48)) || (!(decide (48 ≤ c) && decide (c ≤ 57)) && decide (97 ≤ low c) && decide (low c ≤ 122) && decide (low c - 97 + 10 = v) && decide (v < 16))
  | none => !(decide (48 ≤ c) && decide (c ≤ 57)) && (decide (low c < 97) || decide (122 < low c) || (decide (97 ≤ low c) && decide (low c ≤ 122) && decide (16 ≤ low c - 97 + 10)))

theorem hex_all : (List.range 256).all hexOk = true := by decide +kernel

theorem hex_ok (c : UInt8) : hexOk c.toNat = true := List.all_eq_true.1 hex_all _ (List.mem_range.2 c.toNat_lt)

theorem hexv_eq (c : UInt8) : hexv c = hexn c.toNat := rfl

/-- A digit: one of ten, or a letter. -/
theorem hex_some {c : UInt8} {v : Nat} (h : hexv c = some v) : (48 ≤ c.toNat ∧ c.toNat ≤ 57 ∧ v = c.toNat - 48) ∨ (¬ (48 ≤ c.toNat ∧ c.toNat ≤ 57) ∧ 97 ≤ low c.toNat ∧ low c.toNat ≤ 122 ∧ low c.toNat - 97 + 10 = v ∧ v < 16) := by
  have := hex_ok c
  rw [hexv_eq] at h
  unfold hexOk at this
  rw [h] at this
  simp only [Bool.or_eq_true, Bool.and_eq_true, decide_eq_true_eq, Bool.not_eq_true', Bool.and_eq_false_iff, decide_eq_false_iff_not] at this
  omega
theorem hex_none {c : UInt8} (h : hexv c = none) : ¬ (48 ≤ c.toNat ∧ c.toNat ≤ 57) ∧ (low c.toNat < 97 ∨ 122 < low c.toNat ∨ (97 ≤ low c.toNat ∧ low c.toNat ≤ 122 ∧ 16 ≤ low c.toNat - 97 + 10)) := by
  have := hex_ok c
  rw [hexv_eq] at h
  unfold hexOk at this
  rw [h] at this
  simp only [Bool.or_eq_true, Bool.and_eq_true, decide_eq_true_eq, Bool.not_eq_true', Bool.and_eq_false_iff, decide_eq_false_iff_not] at this
  omega

def one8 (c : UInt8) : ByteArray := ⟨#[c]⟩

/-- What ParseUint(s, 16, 8) answers of one byte. -/
def HexEnd (c : UInt8) (w : World) (e : Ending) (w' : World) : Prop :=
  (match hexv c with
   | some v => e = .returned (.tuple #[.int .u64 v, .nilIface])
   | none => e = .returned (.tuple #[.int .u64 0, .iface 124 (.int .i64 2)])) ∧ Kept NoBlock w w'

set_option maxRecDepth 100000 in
set_option maxHeartbeats 3200000 in
theorem puint_digit (c : UInt8) (v : Nat) (w : World) (h1 : 48 ≤ c.toNat) (h2 : c.toNat ≤ 57) (hv : v = c.toNat - 48) :
    Calls Tryd.prog 72 #[.string (one8 c), .int .i64 16, .int .i64 8] w fun e w' => e = .returned (.tuple #[.int .u64 v, .nilIface]) ∧ Kept NoBlock w w' := by
  have hconv : ∀ w : World, (convert 9 22 (.string (one8 c))).run Tryd.prog w = .ok (.slice (some ⟨w.heap.size, 0, none⟩) 1 (grownCap w 1 0 5)) (Lib.bytesWorld w 5 (one8 c)) := fun w =>
    Lib.run_convert_string_bytes w _ _ 5 (one8 c) Tryd.underlying9 Tryd.underlying22 Tryd.underlying5
  have hne : (one8 c).toList.isEmpty = false := by rw [Go.ByteArray.toList_eq]; rfl
  have hc0 : ∀ w : World, (Lib.bytesWorld w 5 (one8 c)).cell? ⟨w.heap.size, 0, none⟩ = some (.int .u8 c.toNat) := fun w => Lib.bytesWorld_cell w 5 (one8 c) 0 (by show 0 < 1; omega)
  have hk := bytesWorld_kept w 5 (one8 c)
  have hc := hc0 w
  have h1' : (48 : Int) ≤ (c.toNat : Int) := by omega
  have h2' : (c.toNat : Int) ≤ 57 := by omega
  have h95 : ¬ (c.toNat : Int) = 95 := by omega
  have hd : (c.toNat : Int) - 48 = v := by omega
  have hv1 : v < 10 := by omega
  have HK := Lib.hid hk
  clear hk hv h1 h2
  generalize hci : (c.toNat : Int) = ci at *
  clear hci
  go_enter Tryd.func72, Tryd.ntmps72
  go_wp2
  generalize Lib.bytesWorld w 5 (one8 c) = W at *
  clear hconv hc0
  go_loop [12, 13, 101] (fun us n i => us = .bool false ∧ ((i = .int .i64 0 ∧ n = .int .u64 0) ∨ (i = .int .i64 1 ∧ n = .int .u64 v))) (fun _ _ i => 1 - (intOf i).toNat)
  case atStart => exact ⟨rfl, .inl ⟨rfl, rfl⟩⟩
  case round =>
    obtain ⟨rfl, ⟨rfl, rfl⟩ | ⟨rfl, rfl⟩⟩ := hrel
    · go_wp2
      go_round
      case rel => exact ⟨rfl, .inr ⟨rfl, by go_num⟩⟩
      case measure => simp [intOf]
    · go_wp2
      go_ret2
      exact ⟨rfl, HK.out⟩

set_option maxRecDepth 100000 in
set_option maxHeartbeats 3200000 in
theorem puint_letter (c : UInt8) (v : Nat) (w : World) (h0 : ¬ (48 ≤ c.toNat ∧ c.toNat ≤ 57)) (h1 : 97 ≤ low c.toNat) (h2 : low c.toNat ≤ 122) (hv : low c.toNat - 97 + 10 = v) (hv1 : v < 16) :
    Calls Tryd.prog 72 #[.string (one8 c), .int .i64 16, .int .i64 8] w fun e w' => e = .returned (.tuple #[.int .u64 v, .nilIface]) ∧ Kept NoBlock w w' := by
  have hconv : ∀ w : World, (convert 9 22 (.string (one8 c))).run Tryd.prog w = .ok (.slice (some ⟨w.heap.size, 0, none⟩) 1 (grownCap w 1 0 5)) (Lib.bytesWorld w 5 (one8 c)) := fun w =>
    Lib.run_convert_string_bytes w _ _ 5 (one8 c) Tryd.underlying9 Tryd.underlying22 Tryd.underlying5
  have hne : (one8 c).toList.isEmpty = false := by rw [Go.ByteArray.toList_eq]; rfl
  have hc0 : ∀ w : World, (Lib.bytesWorld w 5 (one8 c)).cell? ⟨w.heap.size, 0, none⟩ = some (.int .u8 c.toNat) := fun w => Lib.bytesWorld_cell w 5 (one8 c) 0 (by show 0 < 1; omega)
  have hk := bytesWorld_kept w 5 (one8 c)
  have hc := hc0 w
  have HK := Lib.hid hk
  have hlow : ∀ W, Calls Tryd.prog 78 #[.int .u8 (c.toNat : Int)] W fun e w' => e = .returned (.int .u8 (low c.toNat)) ∧ w' = W := fun W => Tryd.internal_strconv_lower _ W
  have h95 : ¬ (c.toNat : Int) = 95 := fun e => by
    have e' : c.toNat = 95 := by omega
    rw [e'] at h2
    exact absurd h2 (by decide +kernel)
  have h48 : ¬ (48 : Int) ≤ (c.toNat : Int) ∨ ¬ (c.toNat : Int) ≤ 57 := by omega
  clear h0
  generalize low c.toNat = L at *
  generalize hci : (c.toNat : Int) = ci at *
  clear hci hk
  go_enter Tryd.func72, Tryd.ntmps72
  go_wp2
  generalize Lib.bytesWorld w 5 (one8 c) = W at *
  clear hconv hc0
  go_loop [12, 13, 101] (fun us n i => us = .bool false ∧ ((i = .int .i64 0 ∧ n = .int .u64 0) ∨ (i = .int .i64 1 ∧ n = .int .u64 v))) (fun _ _ i => 1 - (intOf i).toNat)
  case atStart => exact ⟨rfl, .inl ⟨rfl, rfl⟩⟩
  case round =>
    obtain ⟨rfl, ⟨rfl, rfl⟩ | ⟨rfl, rfl⟩⟩ := hrel
    · rcases h48 with h48 | h48
      all_goals
        go_wp2_with (go_at_call 78; refine (hlow _).mono ?_; rintro e w' ⟨rfl, rfl⟩)
        go_round
        case rel => exact ⟨rfl, .inr ⟨rfl, by first | go_num | (rw [hv]; rfl) | simp [hv]⟩⟩
        case measure => simp [intOf]
    · go_wp2
      go_ret2
      exact ⟨rfl, HK.out⟩

set_option maxRecDepth 100000 in
set_option maxHeartbeats 3200000 in
theorem puint_none (c : UInt8) (w : World) (h0 : ¬ (48 ≤ c.toNat ∧ c.toNat ≤ 57)) (h1 : low c.toNat < 97 ∨ 122 < low c.toNat ∨ (97 ≤ low c.toNat ∧ low c.toNat ≤ 122 ∧ 16 ≤ low c.toNat - 97 + 10)) :
    Calls Tryd.prog 72 #[.string (one8 c), .int .i64 16, .int .i64 8] w fun e w' => e = .returned (.tuple #[.int .u64 0, .iface 124 (.int .i64 2)]) ∧ Kept NoBlock w w' := by
  have hconv : ∀ w : World, (convert 9 22 (.string (one8 c))).run Tryd.prog w = .ok (.slice (some ⟨w.heap.size, 0, none⟩) 1 (grownCap w 1 0 5)) (Lib.bytesWorld w 5 (one8 c)) := fun w =>
    Lib.run_convert_string_bytes w _ _ 5 (one8 c) Tryd.underlying9 Tryd.underlying22 Tryd.underlying5
  have hne : (one8 c).toList.isEmpty = false := by rw [Go.ByteArray.toList_eq]; rfl
  have hc0 : ∀ w : World, (Lib.bytesWorld w 5 (one8 c)).cell? ⟨w.heap.size, 0, none⟩ = some (.int .u8 c.toNat) := fun w => Lib.bytesWorld_cell w 5 (one8 c) 0 (by show 0 < 1; omega)
  have hk := bytesWorld_kept w 5 (one8 c)
  have hc := hc0 w
  have HK := Lib.hid hk
  have hlow : ∀ W, Calls Tryd.prog 78 #[.int .u8 (c.toNat : Int)] W fun e w' => e = .returned (.int .u8 (low c.toNat)) ∧ w' = W := fun W => Tryd.internal_strconv_lower _ W
  by_cases e95 : c.toNat = 95
  · have hlow95 := hlow
    rw [e95] at hlow95 hc
    rw [show low 95 = 127 by decide +kernel] at hlow95
    clear hlow h0 h1 hk e95
    go_enter Tryd.func72, Tryd.ntmps72
    go_wp2
    generalize Lib.bytesWorld w 5 (one8 c) = W at *
    clear hconv hc0
    go_loop [12, 13, 101] (fun us n i => us = .bool false ∧ i = .int .i64 0 ∧ n = .int .u64 0) (fun _ _ i => 1 - (intOf i).toNat)
    case atStart => exact ⟨rfl, rfl, rfl⟩
    case round =>
      obtain ⟨rfl, rfl, rfl⟩ := hrel
      go_wp2_with (go_at_call 78; refine (hlow95 _).mono ?_; rintro e w' ⟨rfl, rfl⟩)
      go_ret2
      exact ⟨rfl, HK.out⟩
  have h95 : ¬ (c.toNat : Int) = 95 := by omega
  have h48 : ¬ (48 : Int) ≤ (c.toNat : Int) ∨ ¬ (c.toNat : Int) ≤ 57 := by omega
  clear h0 e95
  generalize low c.toNat = L at *
  generalize hci : (c.toNat : Int) = ci at *
  clear hci hk
  go_enter Tryd.func72, Tryd.ntmps72
  go_wp2
  generalize Lib.bytesWorld w 5 (one8 c) = W at *
  clear hconv hc0
  go_loop [12, 13, 101] (fun us n i => us = .bool false ∧ i = .int .i64 0 ∧ n = .int .u64 0) (fun _ _ i => 1 - (intOf i).toNat)
  case atStart => exact ⟨rfl, rfl, rfl⟩
  case round =>
    obtain ⟨rfl, rfl, rfl⟩ := hrel
    rcases h48 with h48 | h48 <;> rcases h1 with h1 | h1 | ⟨h1, h2, h3⟩
    all_goals
      go_wp2_with (go_at_call 78; refine (hlow _).mono ?_; rintro e w' ⟨rfl, rfl⟩)
      go_ret2
      exact ⟨rfl, HK.out⟩

/-- strconv.ParseUint(s, 16, 8) of one byte: a digit of sixteen and no error, or an error. -/
theorem pparse16 (c : UInt8) (w : World) (hV : Vs w) :
    Calls Tryd.prog 82 #[.string (one8 c), .int .i64 16, .int .i64 8] w fun e w' => ∃ n ev, e = .returned (.tuple #[.int .u64 n, ev]) ∧ Kept NoBlock w w' ∧ 0 ≤ n ∧ n ≤ 255 ∧
      ((ev = .nilIface ∧ ∃ v, hexv c = some v ∧ n = (v : Int)) ∨ ((∃ t p, ev = .iface t p) ∧ hexv c = none)) := by
  cases hx : hexv c with
  | some v =>
    have hp : ∀ w, Calls Tryd.prog 72 #[.string (one8 c), .int .i64 16, .int .i64 8] w fun e w' => e = .returned (.tuple #[.int .u64 v, .nilIface]) ∧ Kept NoBlock w w' := fun w => by
      rcases hex_some hx with ⟨h1, h2, h3⟩ | ⟨h0, h1, h2, h3, h4⟩
      · exact puint_digit c v w h1 h2 h3
      · exact puint_letter c v w h0 h1 h2 h3 h4
    have hv : v ≤ 255 := by rcases hex_some hx with ⟨h1, h2, h3⟩ | ⟨h0, h1, h2, h3, h4⟩ <;> omega
    clear hx
    go_enter Tryd.func82, Tryd.ntmps82
    go_wp2_with fail
    refine (hp w).mono ?_
    rintro e w1 ⟨rfl, hk⟩
    go_wp2
    go_ret2
    exact ⟨_, _, rfl, hk, by omega, by omega, .inl ⟨rfl, v, rfl, rfl⟩⟩
  | none =>
    obtain ⟨h0, h1⟩ := hex_none hx
    obtain ⟨tp, p, hv⟩ := hV.syn
    have hp := puint_none c w h0 h1
    clear h0 h1 hx
    go_enter Tryd.func82, Tryd.ntmps82
    go_wp2_with fail
    refine hp.mono ?_
    rintro e w1 ⟨rfl, hk⟩
    have hv1 := var_below hv hk.toB
    have h0 := World.var?_cell Tryd.laysPu14.m0 hv1 0
    have hc : w1.cell? ⟨Tryd.laysPu14_ren.g 0, 0, none⟩ = some (.iface tp p) := by simpa using h0
    have hT := Tryd.strconv_toError_syntax ⟨#[80, 97, 114, 115, 101, 85, 105, 110, 116]⟩ (one8 c) 16 8 (.iface tp p) w1 (by show 1 ≤ _; omega) hc (.inr ⟨_, _, rfl⟩)
    clear h0 hc hv1 hv hp
    go_wp2_with fail
    refine hT.mono ?_
    rintro e w2 ⟨N, rfl, _, _, hb⟩
    have hk2 := Lib.hid (hk.trans (Kept.ofB hb))
    clear hT hb hk
    go_wp2
    go_ret2
    exact ⟨_, _, rfl, hk2.out, by omega, by omega, .inr ⟨⟨_, _, rfl⟩, by trivial⟩⟩
end Go.Proofs.YtdfkdbdhaaiadaaDoor

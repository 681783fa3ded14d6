/- Rows of requests; 'Same' of two that are one. -/
import Derived.Test.YtdfkdbdhaaiadaaDoorRe15
namespace Go.Proofs.YtdfkdbdhaaiadaaDoor
open Go.RowKit

/-- A slice of texts. -/
def TextsV (w : World) (v : Value) (L : List Bs) : Prop := RowV w v (L.map strV) ∧ L.length ≤ 9223372036854775807
/-- A slice of slices of texts. -/
def ReqsV (w : World) (v : Value) (LL : List (List Bs)) : Prop := ∃ out : Outs, RowV w v (out.map (·.1)) ∧ out.map (·.2) = LL ∧ (∀ p ∈ out, TextsV w p.1 p.2) ∧ out.length ≤ 9223372036854775807

theorem ownsRow_rowV {w : World} {base : Nat} {e : TypeId} {v : Value} {n : Nat} {xs : List Value} (h : w.ownsRow base e 1 v n xs) : RowV w v xs ∧ n ≤ 9223372036854775807 := by
  have hn : xs.length = n := by simpa using h.1
  rcases h.2 with ⟨rfl, h0⟩ | ⟨g, cap, cur, rfl, hb, hg, hle, hc, hs, ht⟩
  · subst h0
    obtain rfl : xs = [] := List.eq_nil_of_length_eq_zero hn
    exact ⟨RowV.nil w, by omega⟩
  · refine ⟨RowV.mk ?_ hle (fun h => by cases h), by unfold maxLen at hc; omega⟩
    exact ownsRow_holds (cap := cap) (ap := some ⟨g, 0, none⟩) h

theorem OutsAt.reqs {w : World} {base : Nat} {va : Value} {out : Outs} (h : OutsAt w base va out) {LL : List (List Bs)} (hm : out.map (·.2) = LL) : ReqsV w va LL := by
  obtain ⟨h1, h2⟩ := ownsRow_rowV h.1
  refine ⟨out, h1, hm, fun p hp => ?_, h2⟩
  obtain ⟨h3, h4⟩ := ownsRow_rowV (h.2 p hp)
  exact ⟨h3, h4⟩

theorem TextsV.keptNo {w w' : World} {v : Value} {L : List Bs} (h : TextsV w v L) (hk : Kept NoBlock w w') : TextsV w' v L := ⟨h.1.keptNo hk, h.2⟩
theorem ReqsV.keptNo {w w' : World} {v : Value} {LL : List (List Bs)} (h : ReqsV w v LL) (hk : Kept NoBlock w w') : ReqsV w' v LL := by
  obtain ⟨out, h1, h2, h3, h4⟩ := h
  exact ⟨out, h1.keptNo hk, h2, fun p hp => (h3 p hp).keptNo hk, h4⟩

theorem drewN_add (w : World) (m n : Nat) : (w.drewN m).drewN n = w.drewN (m + n) := by
  simp only [World.drewN, Nat.add_assoc]

set_option maxHeartbeats 1600000 in
theorem psame (va vb : Value) (LL : List (List Bs)) (w : World) (hA : ReqsV w va LL) (hB : ReqsV w vb LL) :
    Calls Tryd.prog 13 #[va, vb] w fun e w' => e = .returned (.bool true) ∧ ∃ k, w' = w.drewN k := by
  obtain ⟨oa, ha1, ha2, ha3, ha4⟩ := hA
  obtain ⟨ob, hb1, hb2, hb3, hb4⟩ := hB
  have hlab : oa.length = ob.length := by
    have h1 := congrArg List.length ha2
    have h2 := congrArg List.length hb2
    rw [List.length_map] at h1 h2; omega
  obtain ⟨apa, ca, rfl, _, _⟩ := ha1.parts
  obtain ⟨apb, cb, rfl, _, _⟩ := hb1.parts
  have HA := Lib.hid ha1
  have HB := Lib.hid hb1
  have HA2 := Lib.hid ha2
  have HB2 := Lib.hid hb2
  have HA3 := Lib.hid ha3
  have HB3 := Lib.hid hb3
  clear ha1 hb1 ha2 hb2 ha3 hb3
  rw [List.length_map, List.length_map]
  obtain ⟨n, hn⟩ : ∃ n, n = oa.length := ⟨_, rfl⟩
  rw [← hlab, ← hn]
  rw [← hn] at ha4
  rw [← hlab, ← hn] at hb4
  go_enter Tryd.func13, Tryd.ntmps13
  go_wp2
  go_loopw [5] (fun i wr => ∃ k q : Nat, k ≤ n ∧ i = .int .i64 k ∧ wr = w.drewN q) (fun i _ => n - (intOf i).toNat)
  case atStart => exact ⟨0, 0, Nat.zero_le _, rfl, rfl⟩
  case round =>
    obtain ⟨k, q, hk, rfl, rfl⟩ := hrel
    by_cases hlt : k < n
    · have hka : k < oa.length := by omega
      have hkb : k < ob.length := by omega
      have e2 : oa[k].2 = ob[k].2 := by
        have h1 := congrArg (·[k]?) (HA2.out.trans HB2.out.symm)
        simp only [List.getElem?_map, List.getElem?_eq_getElem hka, List.getElem?_eq_getElem hkb, Option.map_some, Option.some.injEq] at h1
        exact h1
      obtain ⟨ad, rfl, cA⟩ := RowV.cell HA.out (i := k) (v := oa[k].1) (by rw [List.getElem?_map, List.getElem?_eq_getElem hka]; rfl)
      obtain ⟨bd, rfl, cB⟩ := RowV.cell HB.out (i := k) (v := ob[k].1) (by rw [List.getElem?_map, List.getElem?_eq_getElem hkb]; rfl)
      have tA := HA3.out oa[k] (List.getElem_mem hka)
      have tB := HB3.out ob[k] (List.getElem_mem hkb)
      rw [← e2] at tB
      obtain ⟨rA, lA⟩ := tA
      obtain ⟨rB, _⟩ := tB
      obtain ⟨ap1, c1, ea, _, _⟩ := rA.parts
      obtain ⟨ap2, c2, eb, _, _⟩ := rB.parts
      rw [ea] at rA cA
      rw [eb] at rB cB
      obtain ⟨L, hL⟩ : ∃ L, L = oa[k].2 := ⟨_, rfl⟩
      rw [← hL] at rA rB lA cA cB
      rw [List.length_map] at rA rB cA cB
      obtain ⟨m, hm⟩ : ∃ m, m = L.length := ⟨_, rfl⟩
      rw [← hm] at lA cA cB
      have hcA : ∀ j (hj : j < L.length), ∃ ad1, ap1 = some ad1 ∧ w.cell? (ad1.add j) = some (strV L[j]) := fun j hj => RowV.cell rA (by rw [List.getElem?_map, List.getElem?_eq_getElem hj]; rfl)
      have hcB : ∀ j (hj : j < L.length), ∃ ad1, ap2 = some ad1 ∧ w.cell? (ad1.add j) = some (strV L[j]) := fun j hj => RowV.cell rB (by rw [List.getElem?_map, List.getElem?_eq_getElem hj]; rfl)
      have HCA := Lib.hid hcA
      have HCB := Lib.hid hcB
      clear rA rB hL ea eb e2 hcA hcB
      go_wp2_with fail
      go_quiet (fail)
      go_wp2
      go_loopw [6] (fun i wr => ∃ k q : Nat, k ≤ m ∧ i = .int .i64 k ∧ wr = w.drewN q) (fun i _ => m - (intOf i).toNat)
      case atStart => exact ⟨0, _, Nat.zero_le _, rfl, drewN_add _ _ _⟩
      case round =>
        obtain ⟨j, q2, hj, rfl, rfl⟩ := hrel
        by_cases hlj : j < m
        · obtain ⟨ad1, rfl, cA1⟩ := HCA.out j (by omega)
          obtain ⟨bd1, rfl, cB1⟩ := HCB.out j (by omega)
          simp only [strV] at cA1 cB1
          generalize (⟨(L[j]).toArray⟩ : ByteArray) = S at *
          go_wp2_with fail
          go_quiet (fail)
          go_wp2
          go_roundw
          case rel => exact ⟨j + 1, _, by omega, by go_num, rfl⟩
          case measure => simp [intOf]; omega
        · obtain rfl : j = m := by omega
          go_wp2
          go_roundw
          case rel => exact ⟨k + 1, q2, by omega, by go_num, rfl⟩
          case measure => simp [intOf]; omega
    · obtain rfl : k = n := by omega
      go_wp2
      go_ret
      exact ⟨rfl, _, rfl⟩
end Go.Proofs.YtdfkdbdhaaiadaaDoor

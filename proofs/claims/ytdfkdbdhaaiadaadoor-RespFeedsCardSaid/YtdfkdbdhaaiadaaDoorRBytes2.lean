/- Slices of slices of bytes that came in. -/
import Derived.Test.YtdfkdbdhaaiadaaDoorRLaws
import Derived.Test.YtdfkdbdhaaiadaaDoorRe16
import Derived.Deep.Matrix
import Derived.SizedLaws
namespace Go.Proofs.YtdfkdbdhaaiadaaDoor
open Go.ChangeShapes Go.WideShapes Go.RowKit Go.Deep

theorem cells_bytes : Tryd.prog.cellsOf 22 = 1 := by kernel_rfl
theorem bytesOf_byte : Tryd.prog.bytesOf 5 = 1 := by kernel_rfl

theorem weightsAll_in {H : Type} {P : Program} {e : TypeId} {d : DataW H} : ∀ {l : List (DataW H)}, d ∈ l → ∀ n ∈ d.weights P e, n ∈ DataW.weightsAll P e l
  | x :: l, hd, n, hn => by
    simp only [DataW.weightsAll, List.mem_append]
    rcases List.mem_cons.1 hd with rfl | h
    · exact Or.inl hn
    · exact Or.inr (weightsAll_in h n hn)

theorem matrix_in {H : Type} {enc : TypeId × Value → H} {W : World} {fuel : Nat} {a0 : Option Addr} {len cap : Nat} {d : DataW H} {p : List MemPlace} {ts : List TypeId} {ds : List (DataW H)} {j : Nat}
    (h : DataW.trod enc Tryd.prog W 0 (fun _ => true) true fuel 39 [.slice a0 len cap] = some (d, p)) (hsz : (DataW.weightsEach Tryd.prog ts ds).all (· ≤ reachBytes) = true) (ht : ts[j]? = some 39) (hd : ds[j]? = some d) :
    ∃ LB : List (Value × List UInt8), RowV W (.slice a0 len cap) (LB.map (·.1)) ∧ (∀ p ∈ LB, BytesV W p.1 p.2 ∧ p.2.length ≤ 140737488351232) ∧ LB.length ≤ 9223372036854775807 := by
  rcases open_int_rows Tryd.underlying39 Tryd.underlying22 Tryd.underlying5 cells_bytes cells_byte h with ⟨hcs, hx⟩ | ⟨a, len', cap', A, L, C, Z, hcs, _, hl, hm, hx, hall⟩
  · simp at hcs
    obtain ⟨rfl, rfl, rfl⟩ := hcs
    exact ⟨[], RowV.nil W, fun p hp => (by cases hp), by simp⟩
  · simp at hcs
    obtain ⟨rfl, rfl, rfl⟩ := hcs
    have hdx : d = .slice ((List.range len).map fun r => intRow .u8 (A r) (L r) (Z r)) ((List.range (cap - len)).map fun j => intRow .u8 (A (len + j)) (L (len + j)) (Z (len + j))) := by
      have := congrArg Prod.fst hx; exact this
    refine ⟨(List.range len).map fun r => (.slice (A r) (L r) (C r), ((Z r).take (L r)).map fun z => UInt8.ofNat z.toNat), RowV.mk ⟨by simp, fun hn => ⟨a, rfl, fun j v hj => ?_⟩⟩ hl (fun h => by cases h), fun p hp => ?_, by rw [List.length_map, List.length_range]; unfold maxLen at hm; omega⟩
    · rw [List.getElem?_map, List.getElem?_map] at hj
      rcases Nat.lt_or_ge j len with hjl | hjl
      · rw [List.getElem?_range hjl] at hj
        simp only [Option.map_some, Option.some.injEq] at hj
        rw [(hall j (by omega)).1, hj]
      · rw [List.getElem?_eq_none (by simpa using hjl)] at hj; cases hj
    · obtain ⟨r, hr, rfl⟩ := List.mem_map.1 hp
      have hrl := List.mem_range.1 hr
      obtain ⟨_, h1, h2, h3, h4, h5, h6⟩ := hall r (by omega)
      have hzl : ((Z r).take (L r)).length = L r := by rw [List.length_take]; omega
      refine ⟨RowV.mk ⟨by rw [List.length_map, List.length_map]; exact hzl, fun hn => ?_⟩ h1 h5, ?_⟩
      · cases hA : A r with
        | none => have := h5 hA; omega
        | some a' =>
          refine ⟨a', rfl, fun j v hj => ?_⟩
          rw [List.getElem?_map, List.getElem?_map, List.getElem?_take] at hj
          split at hj
          · rename_i hjl
            rw [(h6 a' hA).2 j (by omega)]
            rw [List.getElem?_eq_getElem (by omega)] at hj
            rw [List.getD_eq_getElem?_getD, List.getElem?_eq_getElem (by omega)]
            have hw := h4 (Z r)[j] (List.getElem_mem _)
            have hrg : 0 ≤ (Z r)[j] ∧ (Z r)[j] ≤ 255 := by simpa [Lit.wf, IntKind.min, IntKind.max, IntKind.signed, IntKind.bits] using hw
            simp only [Option.map_some, Option.some.injEq, Option.getD_some] at hj ⊢
            rw [← hj]
            simp only [bv, UInt8.toNat_ofNat', Value.int.injEq, true_and]
            omega
          · simp at hj
      · rw [List.length_map, hzl]
        cases hA : A r with
        | none => have := h5 hA; omega
        | some a' =>
          have hmem : DataW.slice (lits .u8 ((Z r).take (L r))) (lits .u8 ((Z r).drop (L r))) ∈ (List.range len).map fun r => intRow (H := H) .u8 (A r) (L r) (Z r) :=
            List.mem_map.2 ⟨r, hr, by unfold intRow; rw [hA]⟩
          have hw : ((lits (H := H) .u8 ((Z r).take (L r))).length + (lits (H := H) .u8 ((Z r).drop (L r))).length) * Tryd.prog.bytesOf 5 ≤ reachBytes := by
            refine of_decide_eq_true (List.all_eq_true.1 hsz _ (DataW.weights_mem_each ht hd _ ?_))
            rw [hdx]
            simp only [DataW.weights, Tryd.underlying39, List.mem_cons, List.mem_append]
            exact Or.inr (Or.inl (weightsAll_in hmem _ (by simp [DataW.weights, Tryd.underlying22])))
          rw [bytesOf_byte] at hw
          have h7 : (lits (H := H) .u8 ((Z r).take (L r))).length = L r := by simp [lits]; omega
          rw [h7] at hw
          have : reachBytes = 140737488351232 := rfl
          omega
end Go.Proofs.YtdfkdbdhaaiadaaDoor

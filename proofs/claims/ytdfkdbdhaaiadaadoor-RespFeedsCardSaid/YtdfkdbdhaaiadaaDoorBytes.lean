/- Slices of bytes as lists of bytes: conversions to and from strings, what a walk asks of them. For any program. -/
import Derived.Test.YtdfkdbdhaaiadaaDoorBase
import Derived.Laws.BytesArg
import Derived.Laws.IdiomStrings
import Derived.Lib.ConvBytes
namespace Go.Proofs.YtdfkdbdhaaiadaaDoor
open Go.RowKit

/-- A byte's cell. -/
def bv (b : UInt8) : Value := .int .u8 b.toNat

theorem bv_one (l : List UInt8) : ∀ v ∈ l.map bv, v.oneCell' = true := by
  intro v hv
  obtain ⟨b, _, rfl⟩ := List.mem_map.1 hv
  rfl

theorem bv_inj {a b : List UInt8} (h : a.map bv = b.map bv) : a = b := by
  have hi : Function.Injective bv := fun x y hxy => by
    simp only [bv, Value.int.injEq, true_and] at hxy
    exact UInt8.toNat_inj.1 (Int.ofNat_inj.1 hxy)
  exact (List.map_inj_right (fun _ _ h => hi h)).1 h

theorem addr_add (b o j : Nat) : Addr.add ⟨b, o, none⟩ j = ⟨b, o + j, none⟩ := by unfold Addr.add; split <;> simp_all

/-- 'string(b)' of a slice whose cells are known. -/
theorem conv_bytes {P : Program} (w : World) (src dst e : TypeId) (hs : P.underlying src = some (.slice e)) (he : P.underlying e = some (.int .u8)) (hd : P.underlying dst = some .string)
    {ap : Option Addr} {n : Nat} (cap : Nat) {l : List UInt8} (h : Holds w ap n (l.map bv)) : (convert src dst (.slice ap n cap)).run P w = .ok (.string ⟨l.toArray⟩) w := by
  have hl : l.length = n := by simpa using h.1
  subst hl
  cases ap with
  | none =>
    have hz : l = [] := by
      cases l with
      | nil => rfl
      | cons a l => obtain ⟨_, h, _⟩ := h.2 (by simp); cases h
    subst hz
    exact run_convert_bytes_nil w src e hs he _ _ dst hd
  | some a =>
    refine run_convert_bytes_back w src dst e a cap l hs he hd (fun j hj => ?_)
    obtain ⟨a', e', hc⟩ := h.2 (by omega)
    cases e'
    exact hc j _ (by simp [List.getElem?_eq_getElem hj, bv])

theorem bytesWorld_kept (w : World) (e : TypeId) (s : ByteArray) : Kept NoBlock w (Lib.bytesWorld w e s) :=
  ⟨rfl, rfl, rfl, by rw [Lib.bytesWorld_size]; omega, fun k hk _ => Lib.bytesWorld_at_old w e s k hk⟩

theorem bytesWorld_holds (w : World) (e : TypeId) (s : ByteArray) : Holds (Lib.bytesWorld w e s) (some ⟨w.heap.size, 0, none⟩) s.size (s.data.toList.map bv) := by
  have hsz : s.size = s.data.toList.length := by rw [Array.length_toList]; rfl
  refine ⟨by rw [List.length_map, hsz], fun _ => ⟨_, rfl, fun j v hj => ?_⟩⟩
  rw [addr_add, Nat.zero_add]
  have hd : j < s.data.toList.length := by
    have := (List.getElem?_eq_some_iff.1 hj).1
    rwa [List.length_map] at this
  rw [Lib.bytesWorld_cell w e s j (by omega), List.getD_eq_getElem?_getD]
  rw [List.getElem?_map, List.getElem?_eq_getElem hd, Option.map_some] at hj
  rw [← Option.some.inj hj, List.getElem?_eq_getElem hd]
  rfl
end Go.Proofs.YtdfkdbdhaaiadaaDoor

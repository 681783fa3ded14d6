/- Merged: What all laws' rows share: a law that returns true and leaves what was there. -/
import Derived.Test.YtpekeilpdbdnnaaDoorRows
import Derived.Test.YtpekeilpdbdnnaaDoorZFloat
import Derived.WalkKit
import Derived.ProofKit
import Derived.OpenShut
import Derived.JoinedCond
set_option linter.all false
namespace Go.Proofs.YtpekeilpdbdnnaaDoor
open Go.ChangeShapes Go.WideShapes Go.ChangeAt Go.RowKit

theorem own : ownKnob Tryd.prog.godebug = none := by kernel_rfl
theorem laidOut : laidOutB Tryd.prog = true := by kernel_rfl

theorem trodAll_below {H : Type} {enc : TypeId × Value → H} {P : Program} (hl : laidOutB P = true) {W W' : World} (hb : Below W.heap.size W W') :
    ∀ {ts : List TypeId} {vs : List Value} {ds : List (DataW H)} {ps : List MemPlace}, (∀ t ∈ ts, P.readableRec t = true ∧ t < P.types.size) →
      DataW.TrodAll enc P W 0 (fun _ => true) true ts vs ds ps → (∀ x ∈ ps, x.block < W.heap.size) → DataW.TrodAll enc P W' 0 (fun b => decide (b < W.heap.size)) true ts vs ds ps
  | [], vs, ds, ps, _, h, _ => by
    obtain ⟨rfl, rfl, rfl⟩ := trodAll_nil h
    exact trodAll_mk0
  | t :: ts, vs, ds, ps, hr, h, hlt => by
    obtain ⟨v, vs', d, ds', p, q, rfl, rfl, rfl, h0, h1⟩ := trodAll_cons h
    exact trodAll_cons_mk (Below.trod hl (hr t (by simp)).1 (hr t (by simp)).2 h0 hb (fun x hx => hlt x (by simp [hx])))
      (trodAll_below hl hb (fun t ht => hr t (by simp [ht])) h1 (fun x hx => hlt x (by simp [hx])))

theorem law_post {H : Type} {enc : TypeId × Value → H} {P : Program} {f : Func} {s : ChangeSpec} {W W' : World} {args : Array Value} {ds gs : List (DataW H)} {before : List MemPlace} {b : TypeId}
    (hW : DataW.Whole enc P f.params.toList s.vars false W args.toList ds gs before) (hl : laidOutB P = true) (hrt : f.resultTypes = #[b]) (hu : P.underlying b = some .bool) (hv : s.vars = [])
    (hr : ∀ t ∈ f.params.toList, P.readableRec t = true ∧ t < P.types.size) (e1 : (s.fn H (ds ++ gs)).results = [.lit (.bool true)]) (e2 : (s.fn H (ds ++ gs)).args = ds) (e3 : (s.fn H (ds ++ gs)).vars = [])
    (hb : Below W.heap.size W W') : s.post enc P f false true false false W args (.bool true) W' := by
  have hW' := hW
  obtain ⟨p, q, hA, hV, rfl, hfz, hnd⟩ := hW
  have hV' : DataW.TrodVars enc P W (fun _ => true) [] gs q := by rw [← hv]; exact hV
  obtain ⟨rfl, rfl⟩ := trodVars_none hV'
  refine ⟨ds, [], p ++ [], [], p, [], hW', ?_, ?_, ?_, hb.frame _, fun h => by cases h⟩
  · rw [e1, hrt]; exact trodAll_mk1 (shut_bool hu true)
  · rw [e2]; exact trodAll_below hl hb hr hA (fun x hx => by have := hW'.lt x (by simpa using hx); simpa using this)
  · rw [e3, hv]; rfl

theorem cells_byte : Tryd.prog.cellsOf 5 = 1 := by kernel_rfl

theorem bytes_holds {H : Type} {enc : TypeId × Value → H} {W : World} {fuel : Nat} {a0 : Option Addr} {len cap : Nat} {d : DataW H} {p : List MemPlace}
    (h : DataW.trod enc Tryd.prog W 0 (fun _ => true) true fuel 22 [.slice a0 len cap] = some (d, p)) :
    ∃ ss : List UInt8, Holds W a0 len (ss.map bv) ∧ len ≤ cap ∧ (a0 = none → cap = 0) := by
  rcases open_ints Tryd.underlying22 Tryd.underlying5 cells_byte h with ⟨hcs, hx⟩ | ⟨a, len', cap', ss, hcs, _, hl, hm, hz, hx, hcell, hws⟩
  · simp at hcs
    obtain ⟨rfl, rfl, rfl⟩ := hcs
    exact ⟨[], ⟨rfl, fun h => by omega⟩, Nat.le_refl _, fun _ => rfl⟩
  · simp at hcs
    obtain ⟨rfl, rfl, rfl⟩ := hcs
    simp only [if_true] at hz
    refine ⟨(ss.take len).map fun z => UInt8.ofNat z.toNat, ⟨by rw [List.length_map, List.length_map, List.length_take]; omega, fun hn => ⟨a, rfl, fun j v hj => ?_⟩⟩, hl, fun h => by cases h⟩
    rw [List.getElem?_map, List.getElem?_map, List.getElem?_take] at hj
    split at hj
    · rename_i hjl
      rw [hcell j (by omega)]
      rw [List.getElem?_eq_getElem (by omega)] at hj
      rw [List.getD_eq_getElem?_getD, List.getElem?_eq_getElem (by omega)]
      have hw := hws ss[j] (List.getElem_mem _)
      have hr : 0 ≤ ss[j] ∧ ss[j] ≤ 255 := by simpa [Lit.wf, IntKind.min, IntKind.max, IntKind.signed, IntKind.bits] using hw
      simp only [Option.map_some, Option.some.injEq, Option.getD_some] at hj ⊢
      rw [← hj]
      simp only [bv, UInt8.toNat_ofNat', Value.int.injEq, true_and]
      omega
    · simp at hj

set_option maxRecDepth 100000 in
theorem slice_lt {W : World} {base : Nat} {t e : TypeId} {a : Option Addr} {n c : Nat} (ht : Tryd.prog.underlying t = some (.slice e)) (h : Value.okWide Tryd.prog W .any base t (.slice a n c)) : ∀ k, vblk (.slice a n c) = some k → k < W.heap.size := by
  intro k hk
  cases a with
  | none => cases hk
  | some a =>
    obtain rfl : a.block = k := by simpa [vblk] using hk
    simp only [Value.okWide, ht, Cell.okWide, Cell.ok] at h
    obtain ⟨_, _, _, _, row, cells, hs, _⟩ := h
    unfold World.shape? at hs
    rcases Nat.lt_or_ge a.block W.heap.size with hl | hl
    · exact hl
    · simp [Array.getElem?_eq_none hl] at hs

set_option maxRecDepth 100000 in
theorem slice_cap {W : World} {base : Nat} {t e : TypeId} {a : Option Addr} {n c : Nat} (ht : Tryd.prog.underlying t = some (.slice e)) (h : Value.okWide Tryd.prog W .any base t (.slice a n c)) : n ≤ 9223372036854775807 := by
  cases a with
  | none =>
    simp only [Value.okWide, ht, Cell.okWide] at h
    cases n with
    | zero => omega
    | succ n => simp [Cell.ok, ht] at h
  | some a =>
    simp only [Value.okWide, ht, Cell.okWide, Cell.ok] at h
    have h1 := h.1
    have h2 := h.2.1
    simp [IntKind.max, IntKind.signed, IntKind.bits] at h2
    omega

/-- A slice of bytes that came in. -/
theorem bytes_in {H : Type} {enc : TypeId × Value → H} {W : World} {fuel : Nat} {a0 : Option Addr} {len cap : Nat} {d : DataW H} {p : List MemPlace}
    (h : DataW.trod enc Tryd.prog W 0 (fun _ => true) true fuel 22 [.slice a0 len cap] = some (d, p)) : ∃ l : List UInt8, BytesV W (.slice a0 len cap) l := by
  obtain ⟨l, H, lc, z⟩ := bytes_holds h
  exact ⟨l, RowV.mk H lc z⟩
end Go.Proofs.YtpekeilpdbdnnaaDoor

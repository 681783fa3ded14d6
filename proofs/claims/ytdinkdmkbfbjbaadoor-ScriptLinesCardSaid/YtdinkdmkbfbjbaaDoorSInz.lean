/- Merged: Deeds and rows of deeds that came in. -/
import Derived.Test.YtdinkdmkbfbjbaaDoorZDs1
import Derived.Lib.SmallJoins
import Derived.Deep.Slices
set_option linter.all false
namespace Go.Proofs.YtdinkdmkbfbjbaaDoor
open Go.ChangeShapes Go.WideShapes Go.ChangeAt Go.RowKit Go.Deep Go.Joins

theorem list5 {α : Type} {cs : List α} (h : cs.length = 5) : ∃ c0 c1 c2 c3 c4, cs = [c0, c1, c2, c3, c4] := by
  match cs, h with
  | [c0, c1, c2, c3, c4], _ => exact ⟨c0, c1, c2, c3, c4, rfl⟩

theorem struct5 {H : Type} {enc : TypeId × Value → H} {P : Program} {w : World} {base : Nat} {spare : Nat → Bool} {held : Bool} {t : TypeId} {f0 f1 f2 f3 f4 : Field} {fuel : Nat} {cs : List Value} {x : DataW H × List MemPlace}
    (ht : P.underlying t = some (.struct #[f0, f1, f2, f3, f4])) (hone : oneCellFields P #[f0, f1, f2, f3, f4] = true) (hC : P.cellsOf t = 5) (h : DataW.trod enc P w base spare held fuel t cs = some x) :
    ∃ c0 c1 c2 c3 c4 n y0 y1 y2 y3 y4, cs = [c0, c1, c2, c3, c4] ∧ DataW.trod enc P w base spare held n f0.type [c0] = some y0 ∧ DataW.trod enc P w base spare held n f1.type [c1] = some y1 ∧
      DataW.trod enc P w base spare held n f2.type [c2] = some y2 ∧ DataW.trod enc P w base spare held n f3.type [c3] = some y3 ∧ DataW.trod enc P w base spare held n f4.type [c4] = some y4 := by
  obtain ⟨xs, n, _, _, hl, hlen, hf⟩ := DataW.trod_struct ht h
  obtain ⟨c0, c1, c2, c3, c4, rfl⟩ := list5 (hl.trans hC)
  obtain ⟨y0, y1, y2, y3, y4, rfl⟩ := list5 hlen
  obtain ⟨o0, k0⟩ := hone_of hone 0 f0 rfl
  obtain ⟨o1, k1⟩ := hone_of hone 1 f1 rfl
  obtain ⟨o2, k2⟩ := hone_of hone 2 f2 rfl
  obtain ⟨o3, k3⟩ := hone_of hone 3 f3 rfl
  obtain ⟨o4, k4⟩ := hone_of hone 4 f4 rfl
  have h0 := hf 0 f0 rfl
  have h1 := hf 1 f1 rfl
  have h2 := hf 2 f2 rfl
  have h3 := hf 3 f3 rfl
  have h4 := hf 4 f4 rfl
  rw [o0, k0] at h0
  rw [o1, k1] at h1
  rw [o2, k2] at h2
  rw [o3, k3] at h3
  rw [o4, k4] at h4
  exact ⟨c0, c1, c2, c3, c4, n, y0, y1, y2, y3, y4, rfl, h0, h1, h2, h3, h4⟩

theorem cells_deed : Tryd.prog.cellsOf 36 = 5 := by kernel_rfl

theorem i64_wf {x : Int} (h : (Lit.int .i64 x).wf = true) : -9223372036854775808 ≤ x ∧ x ≤ 9223372036854775807 := by simpa [Lit.wf, IntKind.min, IntKind.max, IntKind.signed, IntKind.bits] using h
theorem u64_wf {x : Int} (h : (Lit.int .u64 x).wf = true) : 0 ≤ x ∧ x ≤ 18446744073709551615 := by simpa [Lit.wf, IntKind.min, IntKind.max, IntKind.signed, IntKind.bits] using h

set_option maxRecDepth 100000 in
theorem deed_in {H : Type} {enc : TypeId × Value → H} {W : World} {fuel : Nat} {cs : List Value} {x : DataW H × List MemPlace} (h : DataW.trod enc Tryd.prog W 0 (fun _ => true) true fuel 36 cs = some x) :
    ∃ (d : Deed) (ap : Option Addr) (cap : Nat), cs = [.int .i64 d.kind, .int .i64 d.a, .int .i64 d.n, .int .u64 d.draw, .slice ap d.b.length cap] ∧ d.Nums ∧ BytesV W (.slice ap d.b.length cap) d.b := by
  obtain ⟨c0, c1, c2, c3, c4, n, y0, y1, y2, y3, y4, rfl, h0, h1, h2, h3, h4⟩ := struct5 Tryd.underlying36 (by kernel_rfl) cells_deed h
  obtain ⟨k, e0, _, w0⟩ := DataW.trod_int Tryd.underlying33 h0
  obtain ⟨a, e1, _, w1⟩ := DataW.trod_int Tryd.underlying3 h1
  obtain ⟨m, e2, _, w2⟩ := DataW.trod_int Tryd.underlying3 h2
  obtain ⟨u, e3, _, w3⟩ := DataW.trod_int Tryd.underlying34 h3
  obtain ⟨ap, len, cap, e4⟩ := slice_form Tryd.underlying22 h4
  obtain ⟨z4, p4⟩ := y4
  cases e0; cases e1; cases e2; cases e3; cases e4
  obtain ⟨b, hb⟩ := bytes_in h4
  have hlen : b.length = len := by have := (RowV.holds hb).2.1; rwa [List.length_map] at this
  subst hlen
  have hu := u64_wf w3
  obtain ⟨u, rfl⟩ := Int.eq_ofNat_of_zero_le hu.1
  exact ⟨⟨k, a, m, u, b⟩, ap, cap, rfl, ⟨i64_wf w0, i64_wf w1, i64_wf w2, by have := hu.2; simp only; omega⟩, hb⟩

set_option maxRecDepth 100000 in
/-- A deed by value. -/
theorem deedV_in {H : Type} {enc : TypeId × Value → H} {W : World} {b0 : Nat} {v : Value} {d : DataW H} {p : List MemPlace} (hv : Value.okWide Tryd.prog W .any b0 36 v)
    (h : DataW.Trod enc Tryd.prog W 0 (fun _ => true) true 36 v d p) : ∃ D : Deed, DeedV W v D ∧ D.Nums := by
  obtain ⟨cs, rfl, hsz⟩ := okWide_struct Tryd.underlying36 hv
  obtain ⟨fuel, hf⟩ := h
  obtain ⟨D, ap, cap, e, hn, hb⟩ := deed_in hf
  have e2 : cs = #[.int .i64 D.kind, .int .i64 D.a, .int .i64 D.n, .int .u64 D.draw, .slice ap D.b.length cap] := by
    have e3 : cs.toList = [.int .i64 D.kind, .int .i64 D.a, .int .i64 D.n, .int .u64 D.draw, .slice ap D.b.length cap] := e
    cases cs; simp_all
  exact ⟨D, ⟨_, by rw [e2], hb⟩, hn⟩

instance : Inhabited (Deed × Value) := ⟨(⟨0, 0, 0, 0, []⟩, .slice none 0 0)⟩

set_option maxRecDepth 100000 in
/-- A row of deeds. -/
theorem deeds_in {H : Type} {enc : TypeId × Value → H} {W : World} {fuel : Nat} {a0 : Option Addr} {len cap : Nat} {d : DataW H} {p : List MemPlace}
    (h : DataW.trod enc Tryd.prog W 0 (fun _ => true) true fuel 53 [.slice a0 len cap] = some (d, p)) :
    ∃ ps : List (Deed × Value), DeedsV W (.slice a0 len cap) ps ∧ BsV W ps ∧ (∀ p ∈ ps, p.1.Nums ∧ ∃ ap c, p.2 = .slice ap p.1.b.length c) ∧ ps.length ≤ 9223372036854775807 := by
  rcases open_slice Tryd.underlying53 h with ⟨hcs, _⟩ | ⟨a, len', cap', m, n, D, Pl, hcs, _, hl, hm, hmm, hx, hall⟩
  · simp at hcs
    obtain ⟨rfl, rfl, rfl⟩ := hcs
    exact ⟨[], ⟨none, 0, rfl, ⟨rfl, fun h => absurd h (by decide)⟩, Nat.le_refl _, fun _ => rfl⟩, fun p hp => (by cases hp), fun p hp => (by cases hp), by simp⟩
  · simp at hcs
    obtain ⟨rfl, rfl, rfl⟩ := hcs
    simp only [if_true] at hmm
    rw [cells_deed] at hall
    have hch : ∀ i, i < len → ∃ q : Deed × Value, W.cells? 0 (a.add (i * 5)) 5 = some (dCells q) ∧ BytesV W q.2 q.1.b ∧ q.1.Nums ∧ ∃ ap c, q.2 = .slice ap q.1.b.length c := fun i hi => by
      obtain ⟨cs', h1, h2⟩ := hall i (by omega)
      obtain ⟨E, ap, c, e, hn, hb⟩ := deed_in h2
      subst e
      exact ⟨(E, .slice ap E.b.length c), h1, hb, hn, ap, c, rfl⟩
    have hq : ∃ ps : List (Deed × Value), ps.length = len ∧ ∀ i q, ps[i]? = some q → W.cells? 0 (a.add (i * 5)) 5 = some (dCells q) ∧ BytesV W q.2 q.1.b ∧ q.1.Nums ∧ ∃ ap c, q.2 = .slice ap q.1.b.length c := by
      obtain ⟨f, hf⟩ := choose_lt (α := Deed × Value) (p := fun i q => W.cells? 0 (a.add (i * 5)) 5 = some (dCells q) ∧ BytesV W q.2 q.1.b ∧ q.1.Nums ∧ ∃ ap c, q.2 = .slice ap q.1.b.length c) hch
      refine ⟨(List.range len).map f, by simp, fun i q hi => ?_⟩
      rw [List.getElem?_map] at hi
      rcases Nat.lt_or_ge i len with hil | hil
      · rw [List.getElem?_range hil] at hi
        simp only [Option.map_some, Option.some.injEq] at hi
        subst hi
        exact hf i hil
      · rw [List.getElem?_eq_none (by simpa using hil)] at hi; cases hi
    obtain ⟨ps, hpl, hps⟩ := hq
    refine ⟨ps, ⟨some a, cap, by rw [hpl], ⟨dCells_len ps, fun _ => ⟨a, rfl, fun j u hj => ?_⟩⟩, by omega, fun h => by cases h⟩, fun q hq => ?_, fun q hq => ?_, by unfold maxLen at hm; omega⟩
    · have hjl := (List.getElem?_eq_some_iff.1 hj).1
      rw [dCells_len] at hjl
      have hi : j / 5 < ps.length := by omega
      have hat := dCells_at ps (j / 5) (j % 5) ps[j / 5] (List.getElem?_eq_getElem hi) (Nat.mod_lt _ (by decide))
      rw [show j / 5 * 5 + j % 5 = j by omega, hj] at hat
      have hc := (hps (j / 5) ps[j / 5] (List.getElem?_eq_getElem hi)).1
      obtain ⟨_, _, hcell⟩ := World.cells?_some hc
      have := hcell (j % 5) (Nat.mod_lt _ (by decide))
      rw [add_add, show j / 5 * 5 + j % 5 = j by omega] at this
      rw [this]
      simpa using hat.symm
    · obtain ⟨i, hi⟩ := List.mem_iff_getElem?.1 hq
      exact (hps i q hi).2.1
    · obtain ⟨i, hi⟩ := List.mem_iff_getElem?.1 hq
      exact (hps i q hi).2.2
end Go.Proofs.YtdinkdmkbfbjbaaDoor

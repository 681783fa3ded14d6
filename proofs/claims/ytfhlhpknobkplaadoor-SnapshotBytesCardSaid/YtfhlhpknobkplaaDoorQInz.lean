/- Merged: Entries that came in. -/
import Derived.Test.YtfhlhpknobkplaaDoorRLawsz
import Derived.Test.YtfhlhpknobkplaaDoorZLb
import Derived.Lib.SmallJoins
import Derived.Deep.Slices
import Derived.SizedLaws
set_option linter.all false
namespace Go.Proofs.YtfhlhpknobkplaaDoor
open Go.ChangeShapes Go.WideShapes Go.ChangeAt Go.RowKit Go.Deep Go.Joins

theorem list_1 {α : Type} {cs : List α} (h : cs.length = 1) : ∃ c0, cs = [c0] := by
  match cs, h with
  | [c0], _ => exact ⟨c0, rfl⟩
theorem list_2 {α : Type} {cs : List α} (h : cs.length = 2) : ∃ c0 c1, cs = [c0, c1] := by
  match cs, h with
  | [c0, c1], _ => exact ⟨c0, c1, rfl⟩
theorem list_3 {α : Type} {cs : List α} (h : cs.length = 3) : ∃ c0 c1 c2, cs = [c0, c1, c2] := by
  match cs, h with
  | [c0, c1, c2], _ => exact ⟨c0, c1, c2, rfl⟩
theorem list_4 {α : Type} {cs : List α} (h : cs.length = 4) : ∃ c0 c1 c2 c3, cs = [c0, c1, c2, c3] := by
  match cs, h with
  | [c0, c1, c2, c3], _ => exact ⟨c0, c1, c2, c3, rfl⟩
theorem list_5 {α : Type} {cs : List α} (h : cs.length = 5) : ∃ c0 c1 c2 c3 c4, cs = [c0, c1, c2, c3, c4] := by
  match cs, h with
  | [c0, c1, c2, c3, c4], _ => exact ⟨c0, c1, c2, c3, c4, rfl⟩
theorem list_7 {α : Type} {cs : List α} (h : cs.length = 7) : ∃ c0 c1 c2 c3 c4 c5 c6, cs = [c0, c1, c2, c3, c4, c5, c6] := by
  match cs, h with
  | [c0, c1, c2, c3, c4, c5, c6], _ => exact ⟨c0, c1, c2, c3, c4, c5, c6, rfl⟩
theorem i64_wf {x : Int} (h : (Lit.int .i64 x).wf = true) : -9223372036854775808 ≤ x ∧ x ≤ 9223372036854775807 := by simpa [Lit.wf, IntKind.min, IntKind.max, IntKind.signed, IntKind.bits] using h
theorem u64_wf {x : Int} (h : (Lit.int .u64 x).wf = true) : 0 ≤ x ∧ x ≤ 18446744073709551615 := by simpa [Lit.wf, IntKind.min, IntKind.max, IntKind.signed, IntKind.bits] using h

/-- A datum's parts take up no more than may be. -/
def Fit {H : Type} (t : TypeId) (d : DataW H) : Prop := ∀ n ∈ d.weights Tryd.prog t, n ≤ 140737488351232
theorem weightsAll_in {H : Type} {P : Program} {e : TypeId} {d : DataW H} : ∀ {l : List (DataW H)}, d ∈ l → ∀ n ∈ d.weights P e, n ∈ DataW.weightsAll P e l
  | x :: l, hd, n, hn => by
    simp only [DataW.weightsAll, List.mem_append]
    rcases List.mem_cons.1 hd with rfl | h
    · exact Or.inl hn
    · exact Or.inr (weightsAll_in h n hn)
theorem Fit.field {H : Type} {t : TypeId} {fs : Array Field} (ht : Tryd.prog.underlying t = some (.struct fs)) {parts : List (DataW H)} (h : Fit t (.agg parts)) {j : Nat} {u : TypeId} {d : DataW H} (hu : (fs.toList.map (·.type))[j]? = some u) (hd : parts[j]? = some d) : Fit u d := fun n hn =>
  h n (by simp only [DataW.weights, ht]; exact DataW.weights_mem_each hu hd n hn)
theorem Fit.elem {H : Type} {t e : TypeId} (ht : Tryd.prog.underlying t = some (.slice e)) {l r : List (DataW H)} (h : Fit t (.slice l r)) {d : DataW H} (hd : d ∈ l) : Fit e d := fun n hn =>
  h n (by simp only [DataW.weights, ht, List.mem_cons, List.mem_append]; exact Or.inr (Or.inl (weightsAll_in hd n hn)))
theorem Fit.size {H : Type} {t e : TypeId} (ht : Tryd.prog.underlying t = some (.slice e)) {l r : List (DataW H)} (h : Fit t (.slice l r)) : (l.length + r.length) * Tryd.prog.bytesOf e ≤ 140737488351232 :=
  h _ (by simp [DataW.weights, ht])

/-- A slice of structs that came in. -/
theorem rows_in {α : Type} [Inhabited α] {H : Type} {enc : TypeId × Value → H} {W : World} {k : Nat} {f : α → List Value} {St T : TypeId} (hu : Tryd.prog.underlying St = some (.slice T)) (hc : Tryd.prog.cellsOf T = k) (hk : 0 < k) (hf : ∀ x, (f x).length = k) (Q : α → Prop)
    (hel : ∀ (fuel : Nat) (cs : List Value) (d : DataW H) (p : List MemPlace), DataW.trod enc Tryd.prog W 0 (fun _ => true) true fuel T cs = some (d, p) → Fit T d → ∃ x, cs = f x ∧ Q x)
    {fuel : Nat} {a0 : Option Addr} {len cap : Nat} {d : DataW H} {p : List MemPlace} (h : DataW.trod enc Tryd.prog W 0 (fun _ => true) true fuel St [.slice a0 len cap] = some (d, p)) (hw : Fit St d) :
    ∃ xs, RowK k f W (.slice a0 len cap) xs ∧ (∀ x ∈ xs, Q x) ∧ xs.length * Tryd.prog.bytesOf T ≤ 140737488351232 := by
  rcases open_slice hu h with ⟨hcs, _⟩ | ⟨a, len', cap', m, n, D, Pl, hcs, _, hl, hm, hmm, hx, hall⟩
  · simp at hcs
    obtain ⟨rfl, rfl, rfl⟩ := hcs
    exact ⟨[], RowK.nil W, fun p hp => (by cases hp), by simp⟩
  · simp at hcs
    obtain ⟨rfl, rfl, rfl⟩ := hcs
    simp only [if_true] at hmm
    rw [hc] at hall
    have hd : d = .slice ((List.range len).map D) ((List.range (m - len)).map fun j => D (len + j)) := congrArg Prod.fst hx
    rw [hd] at hw
    have hsz := hw.size hu
    simp only [List.length_map, List.length_range] at hsz
    have hch : ∀ i, i < len → ∃ x : α, W.cells? 0 (a.add (i * k)) k = some (f x) ∧ Q x := fun i hi => by
      obtain ⟨cs', h1, h2⟩ := hall i (by omega)
      obtain ⟨x, e, hq⟩ := hel n cs' (D i) (Pl i) h2 (hw.elem hu (List.mem_map.2 ⟨i, List.mem_range.2 hi, rfl⟩))
      subst e
      exact ⟨x, h1, hq⟩
    obtain ⟨g, hg⟩ := choose_lt hch
    refine ⟨(List.range len).map g, ⟨some a, cap, by simp, ⟨flat_len hf _, fun _ => ⟨a, rfl, fun j u hj => ?_⟩⟩, by simpa using hl, fun h => by cases h⟩, fun x hx' => ?_, ?_⟩
    · have hjl := (List.getElem?_eq_some_iff.1 hj).1
      rw [flat_len hf, List.length_map, List.length_range] at hjl
      have hi : j / k < len := Nat.div_lt_of_lt_mul hjl
      have hmod := Nat.mod_lt j hk
      have hdm : j / k * k + j % k = j := Nat.div_add_mod' j k
      have hat := flat_at hf ((List.range len).map g) (j / k) (j % k) (g (j / k)) (by rw [List.getElem?_map, List.getElem?_range hi]; rfl) hmod
      rw [hdm, hj] at hat
      obtain ⟨_, _, hcell⟩ := World.cells?_some (hg _ hi).1
      have := hcell (j % k) hmod
      rw [addr_add_add, hdm] at this
      rw [this]
      exact hat.symm
    · obtain ⟨i, hi, rfl⟩ := List.mem_map.1 hx'
      exact (hg i (List.mem_range.1 hi)).2
    · rw [List.length_map, List.length_range]
      have := Nat.mul_le_mul_right (Tryd.prog.bytesOf T) (Nat.le_add_right len (m - len))
      omega

section
variable {H : Type} {enc : TypeId × Value → H} {W : World}
theorem str_in {fuel : Nat} {cs : List Value} {d : DataW H} {p : List MemPlace} (h : DataW.trod enc Tryd.prog W 0 (fun _ => true) true fuel 9 cs = some (d, p)) (hw : Fit 9 d) : ∃ s : Bs, cs = [strV s] ∧ s.length ≤ 140737488351232 := by
  obtain ⟨S, rfl, e, _⟩ := DataW.trod_string Tryd.underlying9 h
  have hd : d = .lit (.string S.data.toList) := congrArg Prod.fst e
  subst hd
  refine ⟨S.data.toList, by unfold strV; simp, hw _ ?_⟩
  simp [DataW.weights]
theorem sco_in {fuel : Nat} {cs : List Value} {d : DataW H} {p : List MemPlace} (h : DataW.trod enc Tryd.prog W 0 (fun _ => true) true fuel 99 cs = some (d, p)) (hw : Fit 99 d) :
    ∃ z : Bs × Int, cs = zCells z ∧ (z.1.length ≤ 140737488351232 ∧ -9223372036854775808 ≤ z.2 ∧ z.2 ≤ 9223372036854775807) := by
  obtain ⟨xs, n, _, hx, hl, hlen, hf⟩ := DataW.trod_struct Tryd.underlying99 h
  obtain ⟨c0, c1, rfl⟩ := list_2 (hl.trans (by kernel_rfl))
  obtain ⟨⟨e0, q0⟩, ⟨e1, q1⟩, rfl⟩ := list_2 hlen
  have hd : d = .agg [e0, e1] := congrArg Prod.fst hx
  subst hd
  have h0 := hf 0 _ rfl
  have h1 := hf 1 _ rfl
  rw [show Tryd.prog.cellsOf _ = 1 by kernel_rfl] at h0 h1
  obtain ⟨s, r0, b0⟩ := str_in (d := e0) (p := q0) h0 (hw.field Tryd.underlying99 (j := 0) rfl rfl)
  obtain ⟨x, r1, _, w1⟩ := DataW.trod_int Tryd.underlying2 h1
  simp at r0 r1
  subst r0 r1
  exact ⟨(s, x), rfl, b0, i64_wf w1⟩
theorem fie_in {fuel : Nat} {cs : List Value} {d : DataW H} {p : List MemPlace} (h : DataW.trod enc Tryd.prog W 0 (fun _ => true) true fuel 87 cs = some (d, p)) (hw : Fit 87 d) :
    ∃ z : Bs × Bs, cs = hCells z ∧ True := by
  obtain ⟨xs, n, _, hx, hl, hlen, hf⟩ := DataW.trod_struct Tryd.underlying87 h
  obtain ⟨c0, c1, rfl⟩ := list_2 (hl.trans (by kernel_rfl))
  obtain ⟨⟨e0, q0⟩, ⟨e1, q1⟩, rfl⟩ := list_2 hlen
  have hd : d = .agg [e0, e1] := congrArg Prod.fst hx
  subst hd
  have h0 := hf 0 _ rfl
  have h1 := hf 1 _ rfl
  rw [show Tryd.prog.cellsOf _ = 1 by kernel_rfl] at h0 h1
  obtain ⟨s, r0, _⟩ := str_in (d := e0) (p := q0) h0 (hw.field Tryd.underlying87 (j := 0) rfl rfl)
  obtain ⟨u, r1, _⟩ := str_in (d := e1) (p := q1) h1 (hw.field Tryd.underlying87 (j := 1) rfl rfl)
  simp at r0 r1
  subst r0 r1
  exact ⟨(s, u), rfl, trivial⟩
/-- What a value that came in has. -/
def InV (W : World) (v : Val) (vL vZ vH : Value) : Prop :=
  RowV W vL (v.L.map strV) ∧ RowK 2 zCells W vZ v.Z ∧ RowK 2 hCells W vH v.H ∧ v.L.length + v.Z.length + v.H.length ≤ 1000000000000000000 ∧ (∀ z ∈ v.Z, z.1.length ≤ 1000000000000000) ∧ v.Fits ∧ -9223372036854775808 ≤ v.kind ∧ v.kind ≤ 9223372036854775807
theorem rowS_V {w : World} {v : Value} {L : List Bs} (h : RowK 1 sCells w v L) : RowV w v (L.map strV) := by
  obtain ⟨ap, cap, rfl, h1, h2, h3⟩ := h
  rw [sCells_map, Nat.one_mul] at h1
  exact ⟨ap, cap, by rw [List.length_map], by rw [List.length_map]; exact h1, by rw [List.length_map]; exact h2, h3⟩
instance : Inhabited (Bs × Int) := ⟨([], 0)⟩
instance : Inhabited (Bs × Bs) := ⟨([], [])⟩
instance : Inhabited EntM := ⟨⟨⟨[], ⟨0, [], [], [], []⟩, 0⟩, .slice none 0 0, .slice none 0 0, .slice none 0 0⟩⟩
theorem val_in {fuel : Nat} {cs : List Value} {d : DataW H} {p : List MemPlace} (h : DataW.trod enc Tryd.prog W 0 (fun _ => true) true fuel 54 cs = some (d, p)) (hw : Fit 54 d) :
    ∃ (v : Val) (vL vZ vH : Value), cs = [.int .i64 v.kind, strV v.s, vL, vZ, vH] ∧ InV W v vL vZ vH := by
  obtain ⟨xs, n, _, hx, hl, hlen, hf⟩ := DataW.trod_struct Tryd.underlying54 h
  obtain ⟨c0, c1, c2, c3, c4, rfl⟩ := list_5 (hl.trans (by kernel_rfl))
  obtain ⟨⟨e0, q0⟩, ⟨e1, q1⟩, ⟨e2, q2⟩, ⟨e3, q3⟩, ⟨e4, q4⟩, rfl⟩ := list_5 hlen
  have hd : d = .agg [e0, e1, e2, e3, e4] := congrArg Prod.fst hx
  subst hd
  have h0 := hf 0 _ rfl
  have h1 := hf 1 _ rfl
  have h2 := hf 2 _ rfl
  have h3 := hf 3 _ rfl
  have h4 := hf 4 _ rfl
  rw [show Tryd.prog.cellsOf _ = 1 by kernel_rfl] at h0 h1 h2 h3 h4
  obtain ⟨k, r0, _, w0⟩ := DataW.trod_int Tryd.underlying49 h0
  obtain ⟨s, r1, _⟩ := str_in h1 (hw.field Tryd.underlying54 (j := 1) rfl rfl)
  obtain ⟨aL, lL, kL, r2⟩ := slice_form Tryd.underlying50 h2
  obtain ⟨aZ, lZ, kZ, r3⟩ := slice_form Tryd.underlying51 h3
  obtain ⟨aH, lH, kH, r4⟩ := slice_form Tryd.underlying52 h4
  simp at r0 r1 r2 r3 r4
  subst r0 r1 r2 r3 r4
  obtain ⟨L, gL, _, bL⟩ := rows_in (k := 1) (f := sCells) (W := W) Tryd.underlying50 (by kernel_rfl) (by decide) (fun _ => rfl) (fun _ => True) (fun fuel cs d p h hw => by
    obtain ⟨s, e, _⟩ := str_in h hw
    exact ⟨s, e, trivial⟩) h2 (hw.field Tryd.underlying54 (j := 2) rfl rfl)
  obtain ⟨Z, gZ, hZ, bZ⟩ := rows_in (k := 2) (f := zCells) (W := W) Tryd.underlying51 (by kernel_rfl) (by decide) (fun _ => rfl) (fun z : Bs × Int => z.1.length ≤ 140737488351232 ∧ -9223372036854775808 ≤ z.2 ∧ z.2 ≤ 9223372036854775807) (fun fuel cs d p h hw => sco_in h hw) h3 (hw.field Tryd.underlying54 (j := 3) rfl rfl)
  obtain ⟨Hh, gH, _, bH⟩ := rows_in (k := 2) (f := hCells) (W := W) Tryd.underlying52 (by kernel_rfl) (by decide) (fun _ => rfl) (fun _ => True) (fun fuel cs d p h hw => fie_in h hw) h4 (hw.field Tryd.underlying54 (j := 4) rfl rfl)
  rw [show Tryd.prog.bytesOf 9 = 16 by kernel_rfl] at bL
  rw [show Tryd.prog.bytesOf 99 = 24 by kernel_rfl] at bZ
  rw [show Tryd.prog.bytesOf 87 = 32 by kernel_rfl] at bH
  exact ⟨⟨k, s, L, Z, Hh⟩, _, _, _, rfl, rowS_V gL, gZ, gH, by simp only; omega, fun z hz => by have := (hZ z hz).1; omega, fun z hz => (hZ z hz).2, i64_wf w0⟩
theorem ent_in {fuel : Nat} {cs : List Value} {d : DataW H} {p : List MemPlace} (h : DataW.trod enc Tryd.prog W 0 (fun _ => true) true fuel 56 cs = some (d, p)) (hw : Fit 56 d) :
    ∃ m : EntM, cs = eCells m ∧ (InV W m.e.v m.vL m.vZ m.vH ∧ -9223372036854775808 ≤ m.e.till ∧ m.e.till ≤ 9223372036854775807) := by
  obtain ⟨xs, n, _, hx, hl, hlen, hf⟩ := DataW.trod_struct Tryd.underlying56 h
  obtain ⟨c0, c1, c2, c3, c4, c5, c6, rfl⟩ := list_7 (hl.trans (by kernel_rfl))
  obtain ⟨⟨e0, q0⟩, ⟨e1, q1⟩, ⟨e2, q2⟩, rfl⟩ := list_3 hlen
  have hd : d = .agg [e0, e1, e2] := congrArg Prod.fst hx
  subst hd
  have h0 := hf 0 _ rfl
  have h1 := hf 1 _ rfl
  have h2 := hf 2 _ rfl
  rw [show Tryd.prog.cellsOf _ = 1 by kernel_rfl] at h0 h2
  rw [show Tryd.prog.cellsOf _ = 5 by kernel_rfl] at h1
  obtain ⟨key, r0, _⟩ := str_in h0 (hw.field Tryd.underlying56 (j := 0) rfl rfl)
  obtain ⟨v, vL, vZ, vH, r1, hv⟩ := val_in h1 (hw.field Tryd.underlying56 (j := 1) rfl rfl)
  obtain ⟨till, r2, _, w2⟩ := DataW.trod_int Tryd.underlying3 h2
  simp at r0 r1 r2
  obtain ⟨rfl, rfl, rfl, rfl, rfl⟩ := r1
  subst r0 r2
  exact ⟨⟨⟨key, v, till⟩, _, _, _⟩, rfl, hv, i64_wf w2⟩
/-- Entries that came in. -/
theorem ents_in {fuel : Nat} {a0 : Option Addr} {len cap : Nat} {d : DataW H} {p : List MemPlace} (h : DataW.trod enc Tryd.prog W 0 (fun _ => true) true fuel 33 [.slice a0 len cap] = some (d, p)) (hw : Fit 33 d) :
    ∃ ms, InE W (.slice a0 len cap) ms := by
  obtain ⟨ms, g, hq, b⟩ := rows_in (k := 7) (f := eCells) (W := W) Tryd.underlying33 (by kernel_rfl) (by decide) (fun _ => rfl) (fun m : EntM => InV W m.e.v m.vL m.vZ m.vH ∧ -9223372036854775808 ≤ m.e.till ∧ m.e.till ≤ 9223372036854775807) (fun fuel cs d p h hw => ent_in h hw) h hw
  rw [show Tryd.prog.bytesOf 56 = 120 by kernel_rfl] at b
  exact ⟨ms, ⟨g, fun m hm => ⟨(hq m hm).1.1, (hq m hm).1.2.1, (hq m hm).1.2.2.1⟩⟩, by omega, fun m hm => (hq m hm).1.2.2.2.1, fun m hm => (hq m hm).1.2.2.2.2.1, fun m hm => (hq m hm).1.2.2.2.2.2.1⟩
set_option maxRecDepth 100000 in
/-- A history by value. -/
theorem hist_in {b0 : Nat} {v : Value} {d : DataW H} {p : List MemPlace} (hv : Value.okWide Tryd.prog W .any b0 32 v) (h : DataW.Trod enc Tryd.prog W 0 (fun _ => true) true 32 v d p) :
    ∃ (id sec : Nat) (off fork : Int), v = .agg #[.int .u64 id, .int .i64 off, .int .u64 sec, .int .i64 fork] ∧ id < 18446744073709551616 := by
  obtain ⟨cs, rfl, hsz⟩ := okWide_struct Tryd.underlying32 hv
  obtain ⟨fuel, hf'⟩ := h
  obtain ⟨xs, n, _, hx, hl, hlen, hf⟩ := DataW.trod_struct Tryd.underlying32 hf'
  obtain ⟨c0, c1, c2, c3, e⟩ := list_4 (hl.trans (by kernel_rfl))
  obtain ⟨⟨e0, q0⟩, ⟨e1, q1⟩, ⟨e2, q2⟩, ⟨e3, q3⟩, rfl⟩ := list_4 hlen
  rw [e] at hf
  have h0 := hf 0 _ rfl
  have h1 := hf 1 _ rfl
  have h2 := hf 2 _ rfl
  have h3 := hf 3 _ rfl
  rw [show Tryd.prog.cellsOf _ = 1 by kernel_rfl] at h0 h1 h2 h3
  obtain ⟨id, r0, _, w0⟩ := DataW.trod_int Tryd.underlying30 h0
  obtain ⟨off, r1, _, w1⟩ := DataW.trod_int Tryd.underlying3 h1
  obtain ⟨sec, r2, _, w2⟩ := DataW.trod_int Tryd.underlying30 h2
  obtain ⟨fork, r3, _, w3⟩ := DataW.trod_int Tryd.underlying3 h3
  simp at r0 r1 r2 r3
  subst r0 r1 r2 r3
  have hi := u64_wf w0
  have hs := u64_wf w2
  obtain ⟨id, rfl⟩ := Int.eq_ofNat_of_zero_le hi.1
  obtain ⟨sec, rfl⟩ := Int.eq_ofNat_of_zero_le hs.1
  refine ⟨id, sec, off, fork, ?_, by have := hi.2; omega⟩
  have e3 : cs.toList = _ := e
  cases cs
  simp_all
end
end Go.Proofs.YtfhlhpknobkplaaDoor

/- Merged: Replies that came in, of a bulk that is not too great. -/
import Derived.Test.YtpekeilpdbdnnaaDoorRLawsz
import Derived.Test.YtpekeilpdbdnnaaDoorZYc2
import Derived.Lib.SmallJoins
import Derived.Deep.Slices
import Derived.SizedLaws
set_option linter.all false
namespace Go.Proofs.YtpekeilpdbdnnaaDoor
open Go.ChangeShapes Go.WideShapes Go.ChangeAt Go.RowKit Go.Deep Go.Joins

theorem decDigits_pow : ∀ (k u : Nat), u < 10 ^ (k + 1) → (Lib.decDigits u).length ≤ k + 1
  | 0, u, h => by
    rw [Lib.decDigits, dif_pos (by simpa using h)]
    simp
  | k + 1, u, h => by
    rw [Lib.decDigits]
    by_cases h0 : u < 10
    · rw [dif_pos h0]; simp
    · rw [dif_neg h0, List.length_append, List.length_singleton]
      have := decDigits_pow k (u / 10) (by rw [Nat.pow_succ] at h; omega)
      omega
theorem itoa_short (n : Int) (h0 : -9223372036854775808 ≤ n) (h1 : n ≤ 9223372036854775807) : (Lib.itoa n).length ≤ 20 := by
  by_cases hn : n < 0
  · obtain ⟨u, rfl⟩ : ∃ u : Nat, n = -(u : Int) := ⟨n.natAbs, by omega⟩
    rw [Lib.itoa_neg u (by omega), List.length_cons]
    have := decDigits_pow 18 u (by omega)
    omega
  · obtain ⟨u, rfl⟩ : ∃ u : Nat, n = (u : Int) := ⟨n.natAbs, by omega⟩
    rw [Lib.itoa_nonneg u]
    have := decDigits_pow 19 u (by omega)
    omega
theorem bytes_bound (m : RepM) (hf : FitM m) : (bytesR m.rep).length ≤ 25 + m.s.length + (bytesM m.l).length := by
  have h1 := itoa_short m.n hf.n0 hf.n1
  have h2 := itoa_short (m.s.length : Int) (by omega) (by have := hf.s; omega)
  have h3 := itoa_short (m.l.length : Int) (by omega) (by have := hf.l; omega)
  rw [bytes_eq]
  repeat' split
  all_goals simp only [List.length_cons, List.length_append, List.length_nil]
  all_goals omega

section
variable {H : Type} {enc : TypeId × Value → H} {W : World}

theorem bulk_one (d : DataW H) : 1 ≤ Rows.uptoBulk d := by
  cases d with
  | lit l => cases l <;> simp [Rows.uptoBulk]
  | nil => simp [Rows.uptoBulk]
  | ptr d => simp [Rows.uptoBulk]
  | slice elems spare => simp [Rows.uptoBulk]
  | agg parts => simp [Rows.uptoBulk]
  | iface t d => simp [Rows.uptoBulk]
  | map entries => simp [Rows.uptoBulk]
  | held h => simp [Rows.uptoBulk]
theorem bulk_part {d : DataW H} {l : List (DataW H)} (h : d ∈ l) : Rows.uptoBulk d ≤ Rows.uptoBulkAll l := by
  induction l with
  | nil => cases h
  | cons x r ih =>
    simp only [Rows.uptoBulkAll]
    cases List.mem_cons.1 h with
    | inl e => subst e; omega
    | inr e => have := ih e; omega
theorem bulk_count (l : List (DataW H)) : l.length ≤ Rows.uptoBulkAll l := by
  induction l with
  | nil => simp [Rows.uptoBulkAll]
  | cons x r ih => have := bulk_one x; simp only [Rows.uptoBulkAll, List.length_cons]; omega

/-- A slice of structs that came in, element by element. -/
theorem rows_up {α : Type} [Inhabited α] {k : Nat} {f : α → List Value} {St T : TypeId} (hu : Tryd.prog.underlying St = some (.slice T)) (hc : Tryd.prog.cellsOf T = k) (hk : 0 < k) (hf : ∀ x, (f x).length = k) (R : α → DataW H → Prop)
    {fuel : Nat} {a0 : Option Addr} {len cap : Nat} {d : DataW H} {p : List MemPlace} (h : DataW.trod enc Tryd.prog W 0 (fun _ => true) true fuel St [.slice a0 len cap] = some (d, p))
    (hel : ∀ (fuel : Nat) (cs : List Value) (e : DataW H) (q : List MemPlace), DataW.trod enc Tryd.prog W 0 (fun _ => true) true fuel T cs = some (e, q) → Rows.uptoBulk e + 1 ≤ Rows.uptoBulk d → ∃ x, cs = f x ∧ R x e) :
    ∃ (n : Nat) (g : Nat → α) (D : Nat → DataW H), RowK k f W (.slice a0 len cap) ((List.range n).map g) ∧ (∀ i ∈ List.range n, R (g i) (D i)) ∧ Rows.uptoBulkAll ((List.range n).map D) + 1 ≤ Rows.uptoBulk d := by
  rcases open_slice hu h with ⟨hcs, hx⟩ | ⟨a, len', cap', m, n, D, Pl, hcs, _, hl, hm, hmm, hx, hall⟩
  · simp at hcs
    obtain ⟨rfl, rfl, rfl⟩ := hcs
    have hd : d = .nil := congrArg Prod.fst hx
    subst hd
    exact ⟨0, fun _ => default, fun _ => .nil, RowK.nil W, fun i hi => (by cases hi), by simp [Rows.uptoBulkAll, Rows.uptoBulk]⟩
  · simp at hcs
    obtain ⟨rfl, rfl, rfl⟩ := hcs
    simp only [if_true] at hmm
    rw [hc] at hall
    have hd : d = .slice ((List.range len).map D) ((List.range (m - len)).map fun j => D (len + j)) := congrArg Prod.fst hx
    subst hd
    have hb : Rows.uptoBulkAll ((List.range len).map D) + 1 ≤ Rows.uptoBulk (DataW.slice ((List.range len).map D) ((List.range (m - len)).map fun j => D (len + j))) := by
      simp only [Rows.uptoBulk]
      omega
    have hch : ∀ i, i < len → ∃ x : α, W.cells? 0 (a.add (i * k)) k = some (f x) ∧ R x (D i) := fun i hi => by
      obtain ⟨cs', h1, h2⟩ := hall i (by omega)
      have := bulk_part (List.mem_map.2 ⟨i, List.mem_range.2 hi, rfl⟩ : D i ∈ (List.range len).map D)
      obtain ⟨x, e, hq⟩ := hel n cs' (D i) (Pl i) h2 (by omega)
      subst e
      exact ⟨x, h1, hq⟩
    obtain ⟨g, hg⟩ := choose_lt hch
    refine ⟨len, g, D, ⟨some a, cap, by simp, ⟨flat_len hf _, fun _ => ⟨a, rfl, fun j u hj => ?_⟩⟩, by simpa using hl, fun h => by cases h⟩, fun i hi => (hg i (List.mem_range.1 hi)).2, hb⟩
    have hjl := (List.getElem?_eq_some_iff.1 hj).1
    rw [flat_len hf, List.length_map, List.length_range] at hjl
    have hi : j / k < len := Nat.div_lt_of_lt_mul hjl
    have hmod := Nat.mod_lt j hk
    have hdm : j / k * k + j % k = j := Nat.div_add_mod' j k
    have hat := flat_at hf ((List.range len).map g) (j / k) (j % k) (g (j / k)) (by rw [List.getElem?_map, List.getElem?_range hi]; rfl) hmod
    rw [hdm, hj] at hat
    obtain ⟨_, _, hcell⟩ := World.cells?_some (hg _ hi).1
    have := hcell (j % k) hmod
    rw [addr_add_add, hdm] at this
    rw [this]
    exact hat.symm

/-- What a reply that came in has. -/
def InM (W : World) (m : RepM) (d : DataW H) : Prop := GoodM W AnyB m ∧ FitM m ∧ (bytesR m.rep).length ≤ 40 * Rows.uptoBulk d
theorem in_sum (g : Nat → RepM) (D : Nat → DataW H) : ∀ l : List Nat, (∀ i ∈ l, InM W (g i) (D i)) → (bytesM (l.map g)).length ≤ 40 * Rows.uptoBulkAll (l.map D)
  | [], _ => by rw [List.map_nil, bytesM_nil]; simp
  | i :: l, h => by
    have h1 := (h i (List.mem_cons_self ..)).2.2
    have h2 := in_sum g D l (fun j hj => h j (List.mem_cons_of_mem _ hj))
    rw [List.map_cons, List.map_cons, Rows.uptoBulkAll]
    have e : bytesM (g i :: l.map g) = bytesR (g i).rep ++ bytesM (l.map g) := by unfold bytesM; rw [List.map_cons, bytesL]
    rw [e, List.length_append]
    omega
instance : Inhabited RepM := ⟨leafM 0 [] 0⟩
theorem list_4 {α : Type} {cs : List α} (h : cs.length = 4) : ∃ c0 c1 c2 c3, cs = [c0, c1, c2, c3] := by
  match cs, h with
  | [c0, c1, c2, c3], _ => exact ⟨c0, c1, c2, c3, rfl⟩
theorem i64_wf {x : Int} (h : (Lit.int .i64 x).wf = true) : -9223372036854775808 ≤ x ∧ x ≤ 9223372036854775807 := by simpa [Lit.wf, IntKind.min, IntKind.max, IntKind.signed, IntKind.bits] using h
theorem reply_in : ∀ (N : Nat) (fuel : Nat) (cs : List Value) (d : DataW H) (p : List MemPlace), DataW.trod enc Tryd.prog W 0 (fun _ => true) true fuel 26 cs = some (d, p) → Rows.uptoBulk d ≤ N → N ≤ 1048576 → ∃ m, cs = rCells m ∧ InM W m d := by
  intro N
  induction N using Nat.strongRecOn with
  | ind N ih =>
    intro fuel cs d p h hN hmax
    obtain ⟨xs, n, _, hx, hl, hlen, hf⟩ := DataW.trod_struct Tryd.underlying26 h
    obtain ⟨c0, c1, c2, c3, rfl⟩ := list_4 (hl.trans (by kernel_rfl))
    obtain ⟨⟨e0, q0⟩, ⟨e1, q1⟩, ⟨e2, q2⟩, ⟨e3, q3⟩, rfl⟩ := list_4 hlen
    have hd : d = .agg [e0, e1, e2, e3] := congrArg Prod.fst hx
    subst hd
    have h0 := hf 0 _ rfl
    have h1 := hf 1 _ rfl
    have h2 := hf 2 _ rfl
    have h3 := hf 3 _ rfl
    rw [show Tryd.prog.cellsOf _ = 1 by kernel_rfl] at h0 h1 h2 h3
    obtain ⟨k, r0, _, w0⟩ := DataW.trod_int Tryd.underlying23 h0
    obtain ⟨S, r1, z1, _⟩ := DataW.trod_string Tryd.underlying9 h1
    obtain ⟨x, r2, _, w2⟩ := DataW.trod_int Tryd.underlying2 h2
    obtain ⟨aL, lL, kL, r3⟩ := slice_form Tryd.underlying24 h3
    simp at r0 r1 r2 r3
    subst r0 r1 r2 r3
    have z1' : e1 = .lit (.string S.data.toList) := congrArg Prod.fst z1
    subst z1'
    have b0 := bulk_one e0
    have b2 := bulk_one e2
    simp only [Rows.uptoBulk, Rows.uptoBulkAll] at hN
    obtain ⟨nn, g, D, hrow, hR, hsum⟩ := rows_up (W := W) (k := 4) (f := rCells) Tryd.underlying24 (by kernel_rfl) (by decide) rCells_len (InM W) h3 (fun fuel cs e q he hb => ih (N - 1) (by omega) fuel cs e q he (by omega) (by omega))
    have hS : S.data.toList.length ≤ 1048576 := by omega
    have hll : ((List.range nn).map g).length ≤ 1048576 := by
      have := bulk_count ((List.range nn).map D)
      rw [List.length_map] at this ⊢
      omega
    have hw := i64_wf w2
    have hbs := in_sum g D _ hR
    have hin : ∀ y ∈ (List.range nn).map g, GoodM W AnyB y ∧ FitM y := fun y hy => by
      obtain ⟨i, hi, rfl⟩ := List.mem_map.1 hy
      exact ⟨(hR i hi).1, (hR i hi).2.1⟩
    have hfit : FitM (.mk k S.data.toList x (.slice aL lL kL) ((List.range nn).map g)) := .mk _ hw.1 hw.2 (by simp only [RepM.s]; omega) (by simp only [RepM.l]; omega) (fun y hy => (hin y hy).2)
    refine ⟨.mk k S.data.toList x (.slice aL lL kL) ((List.range nn).map g), by unfold rCells strV; simp [RepM.k, RepM.s, RepM.n, RepM.v], .mk _ hrow (fun _ _ _ => trivial) (fun y hy => (hin y hy).1), hfit, ?_⟩
    have hb := bytes_bound _ hfit
    simp only [RepM.s, RepM.l] at hb
    simp only [Rows.uptoBulk, Rows.uptoBulkAll]
    omega
end
end Go.Proofs.YtpekeilpdbdnnaaDoor

/- The document's requests: the number behind a sign, a text. -/
import Derived.Test.YtdfkdbdhaaiadaaDoorRs1
import Derived.Test.YtdfkdbdhaaiadaaDoorPlan
namespace Go.Proofs.YtdfkdbdhaaiadaaDoor
open Go.RowKit
attribute [local go_sem] fold_part fold_some fold_some' partAt_zero

/-- The text of a number behind a sign, and how many bytes it has with what stands around it. -/
def headM (big : Bs) (b : Bs) : Got (Bs × Nat) :=
  if fnd 13 b < 0 then (if 65536 < b.length then .wrong big else .wait)
  else if b.length ≤ (fnd 13 b).toNat + 1 then .wait
  else .ok ((b.take (fnd 13 b).toNat).drop 1, (fnd 13 b).toNat + 2)

theorem count_head (P : Bs → Int × Int) (big bad : Bs) (least most : Int) (b : Bs) : count P big bad least most b = match headM big b with
    | .wait => .wait
    | .wrong f => .wrong f
    | .ok (t, i) => if (P t).2 ≠ 0 ∨ (P t).1 < least ∨ most < (P t).1 then .wrong bad else .ok ((P t).1, i) := by
  unfold count headM
  by_cases h : fnd 13 b < 0
  · rw [if_pos h, if_pos h]
    by_cases h2 : 65536 < b.length
    · rw [if_pos h2, if_pos h2]
    · rw [if_neg h2, if_neg h2]
  · rw [if_neg h, if_neg h]
    by_cases h2 : b.length ≤ (fnd 13 b).toNat + 1
    · rw [if_pos h2, if_pos h2]
    · rw [if_neg h2, if_neg h2]

theorem headM_ok {big b t : Bs} {i : Nat} (h : headM big b = .ok (t, i)) : 2 ≤ i ∧ i ≤ b.length ∧ t.length < 65536 := by
  unfold headM at h
  split at h
  · split at h <;> cases h
  · split at h
    · cases h
    · rename_i h0 h1
      have := fnd_lt (c := 13) (a := b) (by omega)
      injection h with h
      injection h with h2 h3
      subst h2
      rw [List.length_drop, List.length_take]
      omega

theorem fnd_pos {c d : UInt8} {b : Bs} (h : b.head? = some d) (hne : d ≠ c) : fnd c b ≠ 0 := by
  cases b with
  | nil => cases h
  | cons x r =>
    obtain rfl : x = d := by simpa using h
    unfold fnd
    rw [List.take_succ_cons, Lib.indexByte]
    have hb : (x == c) = false := by simpa using hne
    rw [hb]
    have := Lib.indexByte_ge (r.take 65535) c
    simp only [Bool.false_eq_true, if_false]
    split
    · decide
    · rename_i h1
      have h2 : ¬ (Lib.indexByte (List.take 65535 r) c = -1) := by simpa using h1
      omega

/-- What the document's 'head' leaves. -/
def HEnd (M : Got (Bs × Nat)) (k : Nat) (w : World) (e : Ending) (w' : World) : Prop :=
  Kept NoBlock w w' ∧ match M with
  | .wait => e = .returned (.tuple #[.string ⟨#[]⟩, .int .i64 0, foundV 0 0 (.slice none 0 0) []])
  | .wrong f => e = .returned (.tuple #[.string ⟨#[]⟩, .int .i64 0, foundV 2 0 (.slice none 0 0) f])
  | .ok (t, i) => e = .returned (.tuple #[.string ⟨t.toArray⟩, .int .i64 ((k + i : Nat) : Int), foundV 1 0 (.slice none 0 0) []])

theorem drop_part (b : Bs) (k f : Nat) : ((b.take (k + f)).drop (k + 1)) = ((b.drop k).take f).drop 1 := by
  rw [List.take_add, List.drop_append]
  by_cases h : k ≤ b.length
  · rw [List.drop_of_length_le (by rw [List.length_take]; omega), List.nil_append, List.length_take, Nat.min_eq_left h, Nat.add_sub_cancel_left]
  · rw [List.drop_of_length_le (by rw [List.length_take]; omega), List.drop_of_length_le (show b.length ≤ k by omega)]
    simp

theorem blk4 {w : World} {g : Nat} {a b c d : Value} {T : TypeId} (h : w.heap[g]? = some (.cells #[a, b, c, d] T (0, 0))) :
    w.cell? ⟨g, 0, none⟩ = some a ∧ w.cell? ⟨g, 1, none⟩ = some b ∧ w.cell? ⟨g, 2, none⟩ = some c ∧ w.cell? ⟨g, 3, none⟩ = some d ∧
    w.frozen? ⟨g, 0, none⟩ = false ∧ w.frozen? ⟨g, 1, none⟩ = false ∧ w.frozen? ⟨g, 2, none⟩ = false ∧ w.frozen? ⟨g, 3, none⟩ = false :=
  ⟨cellB h rfl, cellB h rfl, cellB h rfl, cellB h rfl, frozenB h 0, frozenB h 1, frozenB h 2, frozenB h 3⟩
/-- A cell of the call's own is written. -/
theorem Kept.own {w w' : World} (h : Kept NoBlock w w') {g : Nat} (hg : w.heap.size ≤ g) (i : Nat) (v : Value) : Kept NoBlock w (w'.setCell ⟨g, i, none⟩ v) :=
  h.setCell (p := ⟨g, i, none⟩) (fun hlt => absurd hlt (by simp; omega)) v
theorem Kept.own4 {w w' : World} (h : Kept NoBlock w w') {g : Nat} (hg : w.heap.size ≤ g) (a b c d : Value) : Kept NoBlock w ((((w'.setCell ⟨g, 0, none⟩ a).setCell ⟨g, 1, none⟩ b).setCell ⟨g, 2, none⟩ c).setCell ⟨g, 3, none⟩ d) :=
  (((h.own hg 0 a).own hg 1 b).own hg 2 c).own hg 3 d
abbrev found0 : Obj := .cells #[.int .i64 0, .int .i64 0, .slice none 0 0, .string ⟨#[]⟩] 63

set_option maxRecDepth 100000 in
set_option maxHeartbeats 1600000 in
theorem rhead (v : Value) (b : Bs) (k : Nat) (s : Bs) (hs : s.length ≤ 100) (w : World) (h : BytesV w v b) (hb : b.length ≤ 100000000) (hk : k < b.length) (hne : b[k] ≠ 13) :
    Calls Tryd.prog 32 #[v, .int .i64 k, .string ⟨s.toArray⟩] w (HEnd (headM (pErr ++ s) (b.drop k)) k w) := by
  have hf0 : fnd 13 (b.drop k) ≠ 0 := fnd_pos (d := b[k]) (by rw [List.head?_drop, List.getElem?_eq_getElem hk]) hne
  obtain ⟨M, hM⟩ : ∃ M, M = headM (pErr ++ s) (b.drop k) := ⟨_, rfl⟩
  have hfd := rfind v b k 13 13 rfl
  have hdl : (b.drop k).length = b.length - k := List.length_drop
  have hwr := rwrong s (by omega)
  have hlt := fun h => fnd_lt (c := 13) (a := b.drop k) h
  rw [← hM]
  unfold headM at hM
  rw [hdl] at hM hlt
  have HF := Lib.hid (show findV 13 b k = if fnd 13 (b.drop k) < 0 then -1 else (k : Int) + fnd 13 (b.drop k) from rfl)
  obtain ⟨ap, cap, rfl, hc, hn⟩ := h.parts
  have HB := Lib.hid h
  obtain ⟨S, hS⟩ : ∃ S : ByteArray, S = ⟨s.toArray⟩ := ⟨_, rfl⟩
  rw [← hS] at hwr ⊢
  have hfd2 := fun w h => hfd w h hb (by omega)
  have HFD := Lib.hid hfd2
  have HWR := Lib.hid hwr
  by_cases h0 : fnd 13 (b.drop k) < 0
  · rw [if_pos h0] at hM
    have hF : findV 13 b k = -1 := by rw [HF.out, if_pos h0]
    have HFE := Lib.hid hF
    generalize findV 13 b k = F at *
    clear hfd hfd2 hwr hlt hdl h hn hS hf0 h0 hF hne
    obtain rfl : F = -1 := HFE.out
    generalize b.length = n at *
    by_cases h2 : 65536 < n - k
    · rw [if_pos h2] at hM
      subst hM
      have h2' : (65536 : Int) < (n : Int) - (k : Int) := by omega
      go_enter Tryd.func32, Tryd.ntmps32
      go_wp2_with (first | (go_at_call 36; refine (HFD.out _ (BytesV.keptNo HB.out ((Kept.refl _ w).alloc _))).mono ?_; rintro e w1 ⟨rfl, rfl⟩) | (go_at_call 34; refine (HWR.out _).mono ?_; rintro e w2 ⟨rfl, hk2⟩; refine Hid.out ?_))
      obtain ⟨d0, d1, d2, d3, f0, f1, f2, f3⟩ := blk4 (hk2.heap (heap_alloc_new w found0) (fun h => h))
      refine Lib.hid ?_
      go_wp2
      refine bodyPost_ret (v := .tuple #[.string ⟨#[]⟩, .int .i64 0, foundV 2 0 (.slice none 0 0) (pErr ++ s)]) ((results_ttc rfl _ _ _).trans ?_) rfl ⟨(((Kept.refl NoBlock w).alloc _).trans hk2).own4 (Nat.le_refl _) _ _ _ _, rfl⟩
      go_simp
    · rw [if_neg h2] at hM
      subst hM
      have h2' : ¬ (65536 : Int) < (n : Int) - (k : Int) := by omega
      go_enter Tryd.func32, Tryd.ntmps32
      go_wp2_with (go_at_call 36; refine (HFD.out _ (BytesV.keptNo HB.out ((Kept.refl _ w).alloc _))).mono ?_; rintro e w1 ⟨rfl, rfl⟩)
      refine bodyPost_ret (v := .tuple #[.string ⟨#[]⟩, .int .i64 0, foundV 0 0 (.slice none 0 0) []]) ((results_ttc rfl _ _ _).trans ?_) rfl ⟨(Kept.refl NoBlock w).alloc _, rfl⟩
      go_simp
  · rw [if_neg h0] at hM
    have hl2 := hlt (by omega)
    obtain ⟨f, hf⟩ : ∃ f, f = (fnd 13 (b.drop k)).toNat := ⟨_, rfl⟩
    rw [← hf] at hM hl2
    have hf1 : 1 ≤ f := by omega
    have hF : findV 13 b k = ((k + f : Nat) : Int) := by rw [HF.out, if_neg h0]; omega
    have hdp := drop_part b k f
    obtain ⟨i, hi⟩ : ∃ i, i = k + f := ⟨_, rfl⟩
    rw [← hi] at hF hdp
    rw [hF] at hfd2
    have HFD2 := Lib.hid hfd2
    have hin : i < b.length := by omega
    by_cases h2 : b.length - k ≤ f + 1
    · rw [if_pos h2] at hM
      subst hM
      have h2' : b.length ≤ i + 1 := by omega
      clear hfd hfd2 HFD HF hwr hlt hdl h hn hS hf0 h0 hF hne hl2 hf hdp hi h2
      generalize b.length = n at *
      have h3' : ¬ ((i : Int) + 1 < n) := by omega
      go_enter Tryd.func32, Tryd.ntmps32
      go_wp2_with (go_at_call 36; refine (HFD2.out _ (BytesV.keptNo HB.out ((Kept.refl _ w).alloc _))).mono ?_; rintro e w1 ⟨rfl, rfl⟩)
      refine bodyPost_ret (v := .tuple #[.string ⟨#[]⟩, .int .i64 0, foundV 0 0 (.slice none 0 0) []]) ((results_ttc rfl _ _ _).trans ?_) rfl ⟨(Kept.refl NoBlock w).alloc _, rfl⟩
      go_simp
    · rw [if_neg h2] at hM
      have h2' : i + 1 < b.length := by omega
      have hki : k + 1 ≤ i := by omega
      have hcv := fun W (hW : Kept NoBlock w W) => conv_bytes (P := Tryd.prog) W 22 9 5 Tryd.underlying22 Tryd.underlying5 Tryd.underlying9 (cap - (k + 1)) (RowV.holds (BytesV.part (HB.out.keptNo hW) (k + 1) i hki (by omega))).1
      rw [hdp] at hcv
      obtain ⟨t, ht⟩ : ∃ t, t = ((b.drop k).take f).drop 1 := ⟨_, rfl⟩
      rw [← ht] at hM hcv
      obtain ⟨T, hT⟩ : ∃ T : ByteArray, T = ⟨t.toArray⟩ := ⟨_, rfl⟩
      rw [← hT] at hcv
      have hcv1 := hcv (w.alloc found0) ((Kept.refl NoBlock w).alloc _)
      have HT := Lib.hid hT
      have hnx : ((i : Int) + 2) = ((k + (f + 2) : Nat) : Int) := by omega
      have HNX := Lib.hid hnx
      subst hM
      clear hfd hfd2 HFD HF hwr hlt hdl h hn hS hf0 h0 hF hne hl2 hf hdp h2 ht hT hcv hi hnx
      generalize b.length = n at *
      have h3' : (i : Int) + 1 < n := by omega
      go_enter Tryd.func32, Tryd.ntmps32
      go_wp2_with (go_at_call 36; refine (HFD2.out _ (BytesV.keptNo HB.out ((Kept.refl _ w).alloc _))).mono ?_; rintro e w1 ⟨rfl, rfl⟩)
      refine bodyPost_ret (v := .tuple #[.string T, .int .i64 ((i : Int) + 2), foundV 1 0 (.slice none 0 0) []]) ((results_ttc rfl _ _ _).trans ?_) rfl ⟨(Kept.refl NoBlock w).alloc _, by rw [HT.out, HNX.out]⟩
      go_simp
end Go.Proofs.YtdfkdbdhaaiadaaDoor

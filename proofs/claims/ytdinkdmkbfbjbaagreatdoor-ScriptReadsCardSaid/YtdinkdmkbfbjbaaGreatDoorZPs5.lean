/- Merged: The text of a number, by the program; A deed's line: by definition, and by the program; 'Parse': the number of every text; Texts of numbers, there and back: plain lists; The document's text of a number; A deed's line, by the document: numbers; A deed's line, by the document; Are two deeds the same? By the program and by the document; Are the fields that a deed's line does not show zero?; A deed with just the fields that its line shows; A deed's text, by the program; A deed's text, by the document; The document's number of a text; Words of a line: numbers and kinds; Words of a line: kinds, and numbers of 64 bits, loosely; Words of a line: numbers of 64 bits, loosely; The words of a line, by the document; strconv.ParseUint at base 10, 64 bits: a number and no error, or an error. -/
import Derived.Test.YtdinkdmkbfbjbaaGreatDoorZFu
import Derived.Lib.ParseIntBTie
import Derived.Test.YtdinkdmkbfbjbaaGreatDoorZBd
import Derived.Laws.Concat
import Derived.LoopNIn
import Derived.Lib.ParseIntBCases
set_option linter.all false
namespace Go.Proofs.YtdinkdmkbfbjbaaGreatDoor
open Go.RowKit

theorem ntext (n : Int) (h0 : -9223372036854775808 ≤ n) (h1 : n ≤ 9223372036854775807) (w : World) (hV : Vs w) :
    Calls Tryz.prog 34 #[.int .i64 n] w fun e w' => e = .returned (.string ⟨(Lib.itoa n).toArray⟩) ∧ Below w.heap.size w w' := by
  go_enter Tryz.func34, Tryz.ntmps34
  go_wp2_with (go_at_call 55; refine (nformat n h0 h1 _ hV).mono ?_; rintro e w' ⟨rfl, hb⟩)
  go_ret
  exact ⟨rfl, hb⟩

end Go.Proofs.YtdinkdmkbfbjbaaGreatDoor
namespace Go.Proofs.YtdinkdmkbfbjbaaGreatDoor
open Go.RowKit
open Go.Lib (decDigits)
attribute [local go_sem] fold_part fold_some fold_some' partAt_zero

/-- A deed. -/
structure Deed where
  kind : Int
  a : Int
  n : Int
  draw : Nat
  b : Bs

/-- Within the ranges of its fields. -/
structure Deed.Fits (d : Deed) : Prop where
  kind : -9223372036854775808 ≤ d.kind ∧ d.kind ≤ 9223372036854775807
  a : -9223372036854775808 ≤ d.a ∧ d.a ≤ 9223372036854775807
  n : -9223372036854775808 ≤ d.n ∧ d.n ≤ 9223372036854775807
  draw : d.draw < 18446744073709551616
  b : d.b.length ≤ 9000

def lineD (d : Deed) : Bs :=
  if d.kind = 1 then [111, 112, 101, 110, 32] ++ Lib.itoa d.a
  else if d.kind = 2 then [115, 101, 110, 100, 32] ++ Lib.itoa d.a ++ [32] ++ quote d.b
  else if d.kind = 3 then [117, 112, 32] ++ Lib.itoa d.a ++ [32] ++ Lib.itoa d.n ++ [32] ++ decDigits d.draw
  else if d.kind = 4 then [100, 111, 119, 110, 32] ++ Lib.itoa d.a ++ [32] ++ Lib.itoa d.n
  else if d.kind = 5 then [99, 117, 116, 32] ++ Lib.itoa d.a
  else if d.kind = 6 then [116, 105, 99, 107, 32] ++ Lib.itoa d.a ++ [32] ++ Lib.itoa d.n
  else if d.kind = 7 then [114, 101, 115, 116, 97, 114, 116, 32] ++ Lib.itoa d.a ++ [32] ++ decDigits d.draw
  else []

/-- A deed as a value. -/
def DeedV (w : World) (v : Value) (d : Deed) : Prop := ∃ bv, v = .agg #[.int .i64 d.kind, .int .i64 d.a, .int .i64 d.n, .int .u64 d.draw, bv] ∧ BytesV w bv d.b

theorem blk5 {w : World} {g : Nat} {a b c d e : Value} {T : TypeId} (h : w.heap[g]? = some (.cells #[a, b, c, d, e] T (0, 0))) :
    w.cell? ⟨g, 0, none⟩ = some a ∧ w.cell? ⟨g, 1, none⟩ = some b ∧ w.cell? ⟨g, 2, none⟩ = some c ∧ w.cell? ⟨g, 3, none⟩ = some d ∧ w.cell? ⟨g, 4, none⟩ = some e :=
  ⟨cellB h rfl, cellB h rfl, cellB h rfl, cellB h rfl, cellB h rfl⟩

theorem itoa_len (n : Int) (h : -9223372036854775808 ≤ n ∧ n ≤ 9223372036854775807) : (Lib.itoa n).length ≤ 30 := by
  have hd : ∀ u : Nat, u < 18446744073709551616 → (decDigits u).length ≤ 20 := fun u hu => by
    rw [Lib.decDigits_length]
    rcases Nat.eq_zero_or_pos u with rfl | h1
    · unfold Lib.nDigits; simp
    · have := Lib.numDigits_eq u h1 hu; split at this <;> omega
  rcases Int.lt_or_le n 0 with h0 | h0
  · obtain ⟨u, rfl⟩ : ∃ u : Nat, n = -(u : Int) := ⟨n.natAbs, by omega⟩
    rw [Lib.itoa_neg u (by omega), List.length_cons]
    have := hd u (by omega)
    omega
  · obtain ⟨u, rfl⟩ : ∃ u : Nat, n = u := ⟨n.toNat, by omega⟩
    rw [Lib.itoa_nonneg]
    have := hd u (by omega)
    omega
theorem dec_len (u : Nat) (hu : u < 18446744073709551616) : (decDigits u).length ≤ 20 := by
  rw [Lib.decDigits_length]
  rcases Nat.eq_zero_or_pos u with rfl | h1
  · unfold Lib.nDigits; simp
  · have := Lib.numDigits_eq u h1 hu; split at this <;> omega

set_option maxRecDepth 100000 in
set_option maxHeartbeats 3200000 in
theorem pline (v : Value) (d : Deed) (w : World) (hV : Vs w) (h : DeedV w v d) (hf : d.Fits) :
    Calls Tryz.prog 24 #[v] w fun e w' => e = .returned (.string ⟨(lineD d).toArray⟩) ∧ Kept NoBlock w w' := by
  obtain ⟨bv, rfl, hb⟩ := h
  obtain ⟨k, a, n, dr, b⟩ := d
  obtain ⟨hk, ha, hn, hdr, hbl⟩ := hf
  simp only at hk ha hn hdr hbl hb ⊢
  obtain ⟨ap, cap, rfl, hc, _⟩ := hb.parts
  have hta := fun W (hk : Kept NoBlock w W) => (ntext a ha.1 ha.2 W (hV.below hk.toB)).mono (R' := fun e w' => e = .returned (.string ⟨(Lib.itoa a).toArray⟩) ∧ Kept NoBlock W w') (fun _ _ ⟨e, h⟩ => ⟨e, Kept.ofB h⟩)
  have htn := fun W (hk : Kept NoBlock w W) => (ntext n hn.1 hn.2 W (hV.below hk.toB)).mono (R' := fun e w' => e = .returned (.string ⟨(Lib.itoa n).toArray⟩) ∧ Kept NoBlock W w') (fun _ _ ⟨e, h⟩ => ⟨e, Kept.ofB h⟩)
  have htd := fun W (hk : Kept NoBlock w W) => (nformatU dr hdr W (hV.below hk.toB)).mono (R' := fun e w' => e = .returned (.string ⟨(decDigits dr).toArray⟩) ∧ Kept NoBlock W w') (fun _ _ ⟨e, h⟩ => ⟨e, Kept.ofB h⟩)
  have hqb := fun W (hk : Kept NoBlock w W) => pquote _ b W (hb.keptNo hk) (by omega)
  have hla := itoa_len a ha
  have hln := itoa_len n hn
  have hld := dec_len dr hdr
  have hlq : (quote b).length ≤ 36010 := by have := (quoteA_len b).2; simp only [quote, List.length_cons, List.length_append, List.length_nil]; omega
  obtain ⟨A, hA⟩ : ∃ A : ByteArray, A = ⟨(Lib.itoa a).toArray⟩ := ⟨_, rfl⟩
  obtain ⟨N, hN⟩ : ∃ A : ByteArray, A = ⟨(Lib.itoa n).toArray⟩ := ⟨_, rfl⟩
  obtain ⟨D, hD⟩ : ∃ A : ByteArray, A = ⟨(decDigits dr).toArray⟩ := ⟨_, rfl⟩
  obtain ⟨Q, hQ⟩ : ∃ A : ByteArray, A = ⟨(quote b).toArray⟩ := ⟨_, rfl⟩
  have sA : A.size ≤ 30 := by rw [str_size hA]; exact hla
  have sN : N.size ≤ 30 := by rw [str_size hN]; exact hln
  have sD : D.size ≤ 20 := by rw [str_size hD]; exact hld
  have sQ : Q.size ≤ 36010 := by rw [str_size hQ]; exact hlq
  rw [← hA] at hta
  rw [← hN] at htn
  rw [← hD] at htd
  rw [← hQ] at hqb
  have HTA := Lib.hid hta
  have HTN := Lib.hid htn
  have HTD := Lib.hid htd
  have HQB := Lib.hid hqb
  have HA := Lib.hid hA
  have HN := Lib.hid hN
  have HD := Lib.hid hD
  have HQ := Lib.hid hQ
  have hcells : ∀ W, Kept NoBlock (w.alloc (.cells #[.int .i64 k, .int .i64 a, .int .i64 n, .int .u64 dr, .slice ap b.length cap] 45)) W →
      W.cell? ⟨w.heap.size, 0, none⟩ = some (.int .i64 k) ∧ W.cell? ⟨w.heap.size, 1, none⟩ = some (.int .i64 a) ∧ W.cell? ⟨w.heap.size, 2, none⟩ = some (.int .i64 n) ∧ W.cell? ⟨w.heap.size, 3, none⟩ = some (.int .u64 dr) ∧ W.cell? ⟨w.heap.size, 4, none⟩ = some (.slice ap b.length cap) := fun W hk =>
    blk5 (T := 45) (hk.heap (heap_alloc_new w _) (fun h => h))
  have HCL := Lib.hid hcells
  have HKW := Lib.hid (Kept.allocd w (.cells #[.int .i64 k, .int .i64 a, .int .i64 n, .int .u64 dr, .slice ap b.length cap] 45))
  generalize hL : lineD ⟨k, a, n, dr, b⟩ = L
  have HL := Lib.hid hL
  clear hta htn htd hqb hA hN hD hQ hla hln hld hlq hcells hL hb hV hk ha hn hdr
  go_enter Tryz.func24, Tryz.ntmps24
  go_wp2
  generalize w.alloc (.cells #[.int .i64 k, .int .i64 a, .int .i64 n, .int .u64 dr, .slice ap b.length cap] 45) = W1 at *
  obtain ⟨d0, d1, d2, d3, d4⟩ := HCL.out _ (Kept.refl _ _)
  refine wp_planC (fun W => W.cell? ⟨w.heap.size, 2, none⟩ = some (.int .i64 n) ∧ W.cell? ⟨w.heap.size, 3, none⟩ = some (.int .u64 dr)) 12 [.flt 3, .flt 4, .flt 6, .flt 7, .seg [0, 1] 2, .seg [] 5, .seg [] 8] [9, 10, 11] (by kernel_rfl) (by kernel_rfl) (fun _ _ _ dst _ h => by cases dst <;> exact h) (fun _ _ h => h) ⟨d2, d3⟩ (fun n0 => ?_)
  repeat (refine planC_flt rfl rfl ?_; apply Exists.intro; refine ⟨fun w' hw' => ?_, ?_⟩; obtain ⟨hw1, hw2⟩ := hw'; (go_simp; first | rfl | exact ⟨rfl, rfl⟩); simp only [Act.put, List.setIfInBounds_toArray, List.set_cons_succ, List.set_cons_zero])
  simp only [wpPlanC, pick, List.filterMap_cons, List.filterMap_nil, List.getElem?_cons_succ, List.getElem?_cons_zero]
  repeat (quiet_step (fail))
  refine wpQuiet_nil ?_
  rintro _ ⟨n1, rfl⟩
  go_wp2_with fail
  clear d0 d1 d2 d3 d4
  refine (HTA.out _ (HKW.out.drewN _)).mono ?_
  rintro e w2 ⟨rfl, hk2⟩
  have hk2' : Kept NoBlock W1 w2 := ((Kept.refl NoBlock W1).drewN _).trans hk2
  have HK2 := Lib.hid hk2'
  clear hk2 hk2'
  go_wp2_with fail
  refine Halt.mk ⟨.inr ⟨(HCL.out _ HK2.out).2.2.1, (HCL.out _ HK2.out).2.2.2.1⟩, ?_⟩
  go_wp2_with fail
  refine (HTN.out _ (HKW.out.trans HK2.out)).mono ?_
  rintro e w3 ⟨rfl, hk3⟩
  have HK3 := Lib.hid (HK2.out.trans hk3)
  clear hk3
  go_wp2_with fail
  refine Halt.mk ⟨.inr ⟨(HCL.out _ HK3.out).2.2.1, (HCL.out _ HK3.out).2.2.2.1⟩, ?_⟩
  go_wp2_with fail
  refine (HTD.out _ (HKW.out.trans HK3.out)).mono ?_
  rintro e w4 ⟨rfl, hk4⟩
  have HK4 := Lib.hid (HK3.out.trans hk4)
  clear hk4
  go_wp2_with fail
  refine Halt.mk ⟨.inr ⟨(HCL.out _ HK4.out).2.2.1, (HCL.out _ HK4.out).2.2.2.1⟩, ?_⟩
  repeat (quiet_step (fail))
  refine wpQuiet_nil ?_
  rintro _ ⟨n2, rfl⟩
  have hk5 : Kept NoBlock W1 (w4.drewN n2) := HK4.out.drewN _
  obtain ⟨d0, d1, d2, d3, d4⟩ := HCL.out _ hk5
  have HKE := Lib.hid (HKW.out.trans hk5)
  generalize w4.drewN n2 = w5 at *
  clear HK2 HK3 HK4 hk5 HTA HTN HTD HCL HKW
  by_cases h1 : k = 1
  · subst h1
    go_wp2_with fail
    go_ret
    refine ⟨?_, HKE.out⟩
    rw [← HL.out, HA.out]
    show Ending.returned (.string ((⟨[111, 112, 101, 110, 32].toArray⟩ : ByteArray) ++ ⟨(Lib.itoa a).toArray⟩)) = _
    simp only [str_app]
    rfl
  by_cases h2 : k = 2
  · subst h2
    go_wp2_with fail
    refine (HQB.out _ HKE.out).mono ?_
    rintro e w6 ⟨rfl, hk6⟩
    have HK6 := Lib.hid (HKE.out.trans hk6)
    clear hk6
    go_wp2_with fail
    go_ret
    refine ⟨?_, HK6.out⟩
    rw [← HL.out, HA.out, HQ.out]
    show Ending.returned (.string ((((⟨[115, 101, 110, 100, 32].toArray⟩ : ByteArray) ++ ⟨(Lib.itoa a).toArray⟩) ++ ⟨[32].toArray⟩) ++ ⟨(quote b).toArray⟩)) = _
    simp only [str_app]
    rfl
  by_cases h3 : k = 3
  · subst h3
    go_wp2_with fail
    go_ret
    refine ⟨?_, HKE.out⟩
    rw [← HL.out, HA.out, HN.out, HD.out]
    show Ending.returned (.string ((((((⟨[117, 112, 32].toArray⟩ : ByteArray) ++ ⟨(Lib.itoa a).toArray⟩) ++ ⟨[32].toArray⟩) ++ ⟨(Lib.itoa n).toArray⟩) ++ ⟨[32].toArray⟩) ++ ⟨(decDigits dr).toArray⟩)) = _
    simp only [str_app]
    rfl
  by_cases h4 : k = 4
  · subst h4
    go_wp2_with fail
    go_ret
    refine ⟨?_, HKE.out⟩
    rw [← HL.out, HA.out, HN.out]
    show Ending.returned (.string ((((⟨[100, 111, 119, 110, 32].toArray⟩ : ByteArray) ++ ⟨(Lib.itoa a).toArray⟩) ++ ⟨[32].toArray⟩) ++ ⟨(Lib.itoa n).toArray⟩)) = _
    simp only [str_app]
    rfl
  by_cases h5 : k = 5
  · subst h5
    go_wp2_with fail
    go_ret
    refine ⟨?_, HKE.out⟩
    rw [← HL.out, HA.out]
    show Ending.returned (.string ((⟨[99, 117, 116, 32].toArray⟩ : ByteArray) ++ ⟨(Lib.itoa a).toArray⟩)) = _
    simp only [str_app]
    rfl
  by_cases h6 : k = 6
  · subst h6
    go_wp2_with fail
    go_ret
    refine ⟨?_, HKE.out⟩
    rw [← HL.out, HA.out, HN.out]
    show Ending.returned (.string ((((⟨[116, 105, 99, 107, 32].toArray⟩ : ByteArray) ++ ⟨(Lib.itoa a).toArray⟩) ++ ⟨[32].toArray⟩) ++ ⟨(Lib.itoa n).toArray⟩)) = _
    simp only [str_app]
    rfl
  by_cases h7 : k = 7
  · subst h7
    go_wp2_with fail
    go_ret
    refine ⟨?_, HKE.out⟩
    rw [← HL.out, HA.out, HD.out]
    show Ending.returned (.string ((((⟨[114, 101, 115, 116, 97, 114, 116, 32].toArray⟩ : ByteArray) ++ ⟨(Lib.itoa a).toArray⟩) ++ ⟨[32].toArray⟩) ++ ⟨(decDigits dr).toArray⟩)) = _
    simp only [str_app]
    rfl
  go_wp2_with fail
  go_ret
  refine ⟨?_, HKE.out⟩
  rw [← HL.out]
  unfold lineD
  simp only [h1, h2, h3, h4, h5, h6, h7, if_false]
  rfl
end Go.Proofs.YtdinkdmkbfbjbaaGreatDoor
namespace Go.Proofs.YtdinkdmkbfbjbaaGreatDoor
open Go.RowKit

theorem parseV_bad {l : List UInt8} (h : ¬ okUpto l l.length) : parseV l = (0, 10) := by
  unfold parseV; rw [if_neg h]
theorem parseV_ok {l : List UInt8} (h : okUpto l l.length) {v : Int} (hv : Lib.parseIntB 64 l = .ok v) (hi : Lib.itoa v = l) : parseV l = (v, 0) := by
  unfold parseV; rw [if_pos h, hv]; exact if_pos hi
theorem parseV_other {l : List UInt8} (h : okUpto l l.length) {v : Int} (hv : Lib.parseIntB 64 l = .ok v) (hi : Lib.itoa v ≠ l) : parseV l = (0, 10) := by
  unfold parseV; rw [if_pos h, hv]; exact if_neg hi
theorem parseV_err {l : List UInt8} (h : okUpto l l.length) (hv : ∀ u, Lib.parseIntB 64 l ≠ .ok u) : parseV l = (0, 10) := by
  unfold parseV; rw [if_pos h]
  cases e : Lib.parseIntB 64 l with
  | ok u => exact absurd e (hv u)
  | «syntax» => rfl
  | range => rfl

set_option maxHeartbeats 3200000 in
set_option maxRecDepth 100000 in
theorem nparse (s : ByteArray) (hs : s.size ≤ 1000000) (w : World) (hV : Vs w) :
    Calls Tryz.prog 33 #[.string s] w fun e w' => e = .returned (.tuple #[.int .i64 (parseV s.data.toList).1, .int .i64 (parseV s.data.toList).2]) ∧ Below w.heap.size w w' := by
  have hLn : s.data.toList.length = s.size := (Lib.size_eq s).symm
  have hk0 : (w.iter s 0).heap[w.heap.size]? = some (.stringIter s 0) := World.iter_heap w s 0
  have hb0 : Below w.heap.size w (w.iter s 0) := (Below.refl _ w).alloc (Nat.le_refl _) _
  go_enter Tryz.func33, Tryz.ntmps33
  go_wp2
  go_loopw [5] (fun _ wr => ∃ pos : Nat, pos ≤ s.size ∧ wr.heap[w.heap.size]? = some (.stringIter s pos) ∧ okUpto s.data.toList pos ∧ Below w.heap.size w wr)
    (fun _ wr => s.size - wr.iterPos w.heap.size)
  case atStart => exact ⟨0, Nat.zero_le _, hk0, fun i c h => by omega, hb0⟩
  case round =>
    obtain ⟨pos, hps, hk, hok, hnx⟩ := hrel
    clear hk0 hb0
    by_cases hp : pos < s.size
    · have hcb : s.data.toList[pos]? = some (s[pos]'hp) := by
        rw [List.getElem?_eq_getElem (by omega)]; rfl
      by_cases h128 : (s[pos]'hp).toNat < 128
      · have hnext : ∀ ty, (Instr.next (.pointer (some ⟨w.heap.size, 0, none⟩)) true ty).run Tryz.prog wr = _ := fun ty => Lib.run_next_ascii_at wr w.heap.size s pos ty hk hp h128
        have hk1 := Lib.iterAt_heap wr w.heap.size s pos (pos + 1) hk
        have hnx1 : Below w.heap.size w (wr.iterAt w.heap.size s (pos + 1)) := Lib.below_iterAt hnx (by omega) s (pos + 1)
        have hmu : wr.iterPos w.heap.size = pos := by simp [World.iterPos, hk]
        generalize wr.iterAt w.heap.size s (pos + 1) = W1 at hnext hk1 hnx1
        obtain ⟨c, hc⟩ : ∃ c, c = (s[pos]'hp).toNat := ⟨_, rfl⟩
        rw [← hc] at hnext
        have HC := Lib.hid hc
        cases hcok : okAt pos (s[pos]'hp) with
        | true =>
          have hgo : (48 ≤ c ∧ c ≤ 57) ∨ (c = 45 ∧ pos = 0) := by
            simp only [okAt, Bool.or_eq_true, Bool.and_eq_true, decide_eq_true_eq, beq_iff_eq, ← hc] at hcok
            exact hcok
          have hok1 : okUpto s.data.toList (pos + 1) := by
            intro i c' hi hc'
            by_cases e : i = pos
            · subst e; rw [hcb] at hc'; cases hc'; exact hcok
            · exact hok i c' (by omega) hc'
          have HOK := Lib.hid hok1
          clear hcok hok hc hcb hok1 h128
          rcases hgo with ⟨g1, g2⟩ | ⟨rfl, rfl⟩
          · go_wp2
            go_roundw
            case rel => exact ⟨pos + 1, by omega, hk1, HOK.out, hnx1⟩
            case measure =>
              have hmu2 : W1.iterPos w.heap.size = pos + 1 := by simp [World.iterPos, hk1]
              rw [hmu, hmu2]; omega
          · go_wp2
            go_roundw
            case rel => exact ⟨1, by omega, hk1, HOK.out, hnx1⟩
            case measure =>
              have hmu2 : W1.iterPos w.heap.size = 1 := by simp [World.iterPos, hk1]
              rw [hmu, hmu2]; omega
        | false =>
          have hbad : parseV s.data.toList = (0, 10) := parseV_bad (fun h => by
            have := h pos _ (by omega) hcb
            rw [hcok] at this; cases this)
          have HBAD := Lib.hid hbad
          have hgo : (¬ (48 ≤ c) ∨ ¬ (c ≤ 57)) ∧ (¬ (c = 45) ∨ ¬ (pos = 0)) := by
            simp only [okAt, Bool.or_eq_false_iff, Bool.and_eq_false_iff, decide_eq_false_iff_not, beq_eq_false_iff_ne, ne_eq, ← hc] at hcok
            exact hcok
          clear hcok hok hc hcb h128 hbad
          obtain ⟨g1, g2⟩ := hgo
          rcases g1 with g1 | g1 <;> rcases g2 with g2 | g2 <;> go_wp2 <;> go_ret2 <;> exact ⟨(by rw [HBAD.out]; rfl), hnx1⟩
      · have hnext : ∀ ty, (Instr.next (.pointer (some ⟨w.heap.size, 0, none⟩)) true ty).run Tryz.prog wr = _ := fun ty => Lib.run_next_any_at wr w.heap.size s pos ty hk hp
        have hbig := decode_big s pos hp (by omega)
        have hnx1 : Below w.heap.size w (wr.iterAt w.heap.size s (pos + (Utf8.decode s pos).2)) := Lib.below_iterAt hnx (by omega) s _
        generalize wr.iterAt w.heap.size s (pos + (Utf8.decode s pos).2) = W1 at hnext hnx1
        generalize (Utf8.decode s pos).1 = r at *
        have hbad : parseV s.data.toList = (0, 10) := parseV_bad (fun h => by
          have := h pos _ (by omega) hcb
          simp only [okAt, Bool.or_eq_true, Bool.and_eq_true, decide_eq_true_eq, beq_iff_eq] at this
          omega)
        have HBAD := Lib.hid hbad
        have q1 : ¬ (r ≤ 57) := by omega
        have q2 : ¬ (r = 45) := by omega
        clear hbad hcb h128 hok
        go_wp2
        go_ret2
        exact ⟨(by rw [HBAD.out]; rfl), hnx1⟩
    · have hnext : ∀ ty, (Instr.next (.pointer (some ⟨w.heap.size, 0, none⟩)) true ty).run Tryz.prog wr = _ := fun ty => Lib.run_next_end_at wr w.heap.size s pos ty hk hp
      have hall : okUpto s.data.toList s.data.toList.length := by
        rw [hLn, show s.size = pos by omega]; exact hok
      go_wp2_with fail
      refine (nparseInt s hs wr (hV.below hnx)).mono ?_
      rintro e W2 ⟨v, ev, rfl, hb2, hcase⟩
      have hnx2 := hnx.trans (hb2.mono hnx.size)
      rcases hcase with ⟨rfl, hv⟩ | ⟨⟨t, p, rfl⟩, hno⟩
      · have hvb : -9223372036854775808 ≤ v ∧ v ≤ 9223372036854775807 := by
          have := Lib.parseIntB_bounds hv
          omega
        by_cases hit : Lib.itoa v = s.data.toList
        · have HPV := Lib.hid (parseV_ok hall hv hit)
          have hse : (⟨(Lib.itoa v).toArray⟩ : ByteArray) = s := by rw [hit]
          go_wp2_with fail
          refine (nformat v hvb.1 hvb.2 W2 (hV.below hnx2)).mono ?_
          rintro e W3 ⟨rfl, hb3⟩
          rw [hse]
          clear hse hit
          go_wp2
          go_ret2
          exact ⟨(by rw [HPV.out]; rfl), hnx2.trans (hb3.mono hnx2.size)⟩
        · have HPV := Lib.hid (parseV_other hall hv hit)
          obtain ⟨S, hS⟩ : ∃ S : ByteArray, S = ⟨(Lib.itoa v).toArray⟩ := ⟨_, rfl⟩
          have hse : ¬ (S = s) := fun h => hit (by rw [← h, hS])
          have hse' : (S.toList == s.toList) = false := by
            rw [beq_eq_false_iff_ne, Go.ByteArray.toList_eq, Go.ByteArray.toList_eq]
            exact fun h => hse (ByteArray.ext (Array.ext' h))
          have HFM := nformat v hvb.1 hvb.2 W2 (hV.below hnx2)
          rw [← hS] at HFM
          clear hS
          go_wp2_with fail
          refine HFM.mono ?_
          rintro e W3 ⟨rfl, hb3⟩
          go_wp2
          go_ret2
          exact ⟨(by rw [HPV.out]; rfl), hnx2.trans (hb3.mono hnx2.size)⟩
      · have HPV := Lib.hid (parseV_err hall hno)
        go_wp2
        go_ret2
        exact ⟨(by rw [HPV.out]; rfl), hnx2⟩
end Go.Proofs.YtdinkdmkbfbjbaaGreatDoor
namespace Go.Proofs.YtdinkdmkbfbjbaaGreatDoor
open Go.RowKit

def isDig (c : UInt8) : Prop := 48 ≤ c.toNat ∧ c.toNat ≤ 57
def valOf (acc : Nat) : List UInt8 → Nat
  | [] => acc
  | c :: r => valOf (acc * 10 + (c.toNat - 48)) r

theorem valOf_append (acc : Nat) (x y : List UInt8) : valOf acc (x ++ y) = valOf (valOf acc x) y := by
  induction x generalizing acc with
  | nil => rfl
  | cons c x ih => exact ih _
theorem le_valOf (acc : Nat) (l : List UInt8) : acc ≤ valOf acc l := by
  induction l generalizing acc with
  | nil => exact Nat.le_refl _
  | cons c l ih => exact Nat.le_trans (by omega) (ih _)

theorem toNat_digit {d : Nat} (h : d < 10) : (UInt8.ofNat (48 + d)).toNat = 48 + d := by
  rw [UInt8.toNat_ofNat']; omega

theorem dec_dig (u : Nat) : ∀ c ∈ Lib.decDigits u, isDig c := by
  induction u using Nat.strongRecOn with
  | _ u ih =>
    by_cases h : u < 10
    · rw [Lib.decDigits, dif_pos h]
      intro c hc
      obtain rfl := List.mem_singleton.1 hc
      unfold isDig; rw [toNat_digit h]; omega
    · rw [Lib.decDigits, dif_neg h]
      intro c hc
      rcases List.mem_append.1 hc with hc | hc
      · exact ih (u / 10) (by omega) c hc
      · obtain rfl := List.mem_singleton.1 hc
        unfold isDig; rw [toNat_digit (by omega)]; omega

theorem valOf_one (acc : Nat) (c : UInt8) : valOf acc [c] = acc * 10 + (c.toNat - 48) := rfl
theorem dec_small {u : Nat} (h : u < 10) : Lib.decDigits u = [UInt8.ofNat (48 + u)] := by
  rw [Lib.decDigits, dif_pos h]
theorem dec_big {u : Nat} (h : ¬ u < 10) : Lib.decDigits u = Lib.decDigits (u / 10) ++ [UInt8.ofNat (48 + u % 10)] := by
  conv => lhs; rw [Lib.decDigits]
  rw [dif_neg h]
theorem val_small {u : Nat} (h : u < 10) : valOf 0 (Lib.decDigits u) = u := by
  have e := toNat_digit h
  generalize hc : UInt8.ofNat (48 + u) = c at e
  rw [dec_small h, hc, valOf_one, e]
  omega
theorem val_big {u : Nat} (h : ¬ u < 10) (ih : valOf 0 (Lib.decDigits (u / 10)) = u / 10) : valOf 0 (Lib.decDigits u) = u := by
  have e := toNat_digit (show u % 10 < 10 by omega)
  generalize hc : UInt8.ofNat (48 + u % 10) = c at e
  rw [dec_big h, hc, valOf_append, ih, valOf_one, e]
  omega
theorem dec_val (u : Nat) : valOf 0 (Lib.decDigits u) = u := by
  induction u using Nat.strongRecOn with
  | _ u ih =>
    by_cases h : u < 10
    · exact val_small h
    · exact val_big h (ih (u / 10) (by omega))

theorem dec_ne (u : Nat) : Lib.decDigits u ≠ [] := by
  rw [Lib.decDigits]; split <;> simp

theorem parseM_cons (M acc : Nat) (c : UInt8) (r : List UInt8) (h1 : 48 ≤ c.toNat ∧ c.toNat ≤ 57) (h2 : ¬ 1844674407370955162 ≤ acc) (h3 : ¬ M < acc * 10 + (c.toNat - 48)) :
    Lib.parseUintM M acc (c :: r) = Lib.parseUintM M (acc * 10 + (c.toNat - 48)) r := by
  rw [Lib.parseUintM, if_pos h1, if_neg h2, if_neg h3]

theorem parseM_ok (M : Nat) (hM : M ≤ 18446744073709551615) (l : List UInt8) : ∀ (acc : Nat), (∀ c ∈ l, isDig c) → valOf acc l ≤ M → Lib.parseUintM M acc l = .ok (valOf acc l) := by
  induction l with
  | nil => intro acc _ _; rfl
  | cons c r ih =>
    intro acc hd hv
    have h1 : isDig c := hd c (by simp)
    have hv' : valOf (acc * 10 + (c.toNat - 48)) r ≤ M := hv
    have h2 := le_valOf (acc * 10 + (c.toNat - 48)) r
    rw [parseM_cons M acc c r h1 (by omega) (by omega)]
    exact ih _ (fun c hc => hd c (by simp [hc])) hv'

theorem parseB_dec (u : Nat) (h : u ≤ 18446744073709551615) : Lib.parseUintB 64 (Lib.decDigits u) = .ok u := by
  unfold Lib.parseUintB
  rw [if_neg (dec_ne u)]
  have := parseM_ok (2 ^ 64 - 1) (by omega) (Lib.decDigits u) 0 (dec_dig u) (by rw [dec_val]; omega)
  rw [this, dec_val]

theorem parse_itoa (n : Int) (h0 : -9223372036854775808 ≤ n) (h1 : n ≤ 9223372036854775807) : Lib.parseIntB 64 (Lib.itoa n) = .ok n := by
  by_cases hn : n < 0
  · obtain ⟨m, rfl⟩ : ∃ m : Nat, n = -(m : Int) := ⟨n.natAbs, by omega⟩
    rw [Lib.itoa_neg m (by omega)]
    unfold Lib.parseIntB
    have e : (45 : UInt8).toNat = 45 := rfl
    simp only [e, or_true, if_true, parseB_dec m (by omega)]
    rw [if_neg (by simp), if_neg (by simp; omega)]
  · obtain ⟨m, rfl⟩ : ∃ m : Nat, n = (m : Int) := ⟨n.toNat, by omega⟩
    rw [Lib.itoa_nonneg]
    obtain ⟨c, r, hc⟩ : ∃ c r, Lib.decDigits m = c :: r := by
      cases h : Lib.decDigits m with
      | nil => exact absurd h (dec_ne m)
      | cons c r => exact ⟨c, r, rfl⟩
    have hd := dec_dig m c (by rw [hc]; simp)
    unfold isDig at hd
    have hp := parseB_dec m (by omega)
    rw [hc] at hp ⊢
    unfold Lib.parseIntB
    simp only
    rw [if_neg (by omega), hp]
    simp only
    have n1 : ¬ (c.toNat = 45) := by omega
    rw [if_neg (by simp only [n1, not_false_eq_true, true_and]; omega), if_neg (by simp [n1])]
    rw [if_neg n1]

theorem ok_itoa (n : Int) : okUpto (Lib.itoa n) (Lib.itoa n).length := by
  intro i c _ hc
  have hmem : ∀ u, ∀ j c, (Lib.decDigits u)[j]? = some c → okAt i c = true := fun u j c h => by
    have := dec_dig u c (List.mem_of_getElem? h)
    unfold isDig at this
    simp only [okAt, Bool.or_eq_true, Bool.and_eq_true, decide_eq_true_eq]
    exact .inl this
  unfold Lib.itoa at hc
  split at hc
  · cases i with
    | zero =>
      simp at hc
      subst hc
      rfl
    | succ i =>
      rw [List.getElem?_cons_succ] at hc
      exact hmem _ _ _ hc
  · exact hmem _ _ _ hc

theorem parseV_itoa (n : Int) (h0 : -9223372036854775808 ≤ n) (h1 : n ≤ 9223372036854775807) : parseV (Lib.itoa n) = (n, 0) := parseV_ok (ok_itoa n) (parse_itoa n h0 h1) rfl

/-- Either it is no number's text, or that of the number. -/
theorem parseV_cases (l : List UInt8) : parseV l = (0, 10) ∨ ∃ v, parseV l = (v, 0) ∧ Lib.itoa v = l ∧ -9223372036854775808 ≤ v ∧ v ≤ 9223372036854775807 := by
  by_cases h : okUpto l l.length
  · cases e : Lib.parseIntB 64 l with
    | ok v =>
      by_cases hi : Lib.itoa v = l
      · refine .inr ⟨v, parseV_ok h e hi, hi, ?_⟩
        have := Lib.parseIntB_bounds e
        omega
      · exact .inl (parseV_other h e hi)
    | «syntax» => exact .inl (parseV_err h (fun u hu => by rw [e] at hu; cases hu))
    | range => exact .inl (parseV_err h (fun u hu => by rw [e] at hu; cases hu))
  · exact .inl (parseV_bad h)
end Go.Proofs.YtdinkdmkbfbjbaaGreatDoor
namespace Go.Proofs.YtdinkdmkbfbjbaaGreatDoor
open Go.RowKit

theorem digit_holds (w : World) (d : Nat) (hd : d ≤ 9) : Holds (w.alloc (.cells #[.int .u8 (48 + (d : Int))] 5)) (some ⟨w.heap.size, 0, none⟩) 1 ([UInt8.ofNat (48 + d)].map bv) := by
  refine ⟨rfl, fun _ => ⟨_, rfl, fun j v hj => ?_⟩⟩
  rw [addr_add, Nat.zero_add]
  refine cellB (heap_alloc_new w _) ?_
  have e : bv (UInt8.ofNat (48 + d)) = .int .u8 (48 + (d : Int)) := by
    unfold bv; rw [toNat_digit (by omega)]; simp
  cases j with
  | zero =>
    simp only [List.map_cons, List.getElem?_cons_zero] at hj
    rw [e] at hj
    exact hj
  | succ j => simp at hj

set_option maxRecDepth 100000 in
set_option maxHeartbeats 3200000 in
theorem nrtext_pos (N : Nat) (w : World) (hN : 0 < N) (hN2 : N ≤ 9223372036854775807) : Calls Tryz.prog 43 #[.int .i64 ((N : Int))] w fun e w' => e = .returned (.string ⟨(Lib.decDigits N).toArray⟩) ∧ Kept NoBlock w w' := by
  have hn0 : ¬ ((N : Int) = 0) := by omega
  have hnb : ((N : Int) == 0) = false := by simpa using hn0
  have hN20 : N < 10 ^ 20 := by
    have : (10 : Nat) ^ 20 = 100000000000000000000 := by decide
    omega
  go_enter Tryz.func43, Tryz.ntmps43
  go_wp2
  go_loopw [3, 4] (fun vs vm wr => ∃ (M : Nat) (suf : List UInt8), M ≤ N ∧ vm = .int .i64 ((M : Int)) ∧ vs = .string ⟨suf.toArray⟩ ∧ Lib.decDigits N = (if M = 0 then suf else Lib.decDigits M ++ suf) ∧ suf.length ≤ 20 ∧ M < 10 ^ (20 - suf.length) ∧ Kept NoBlock w wr) (fun _ vm _ => (intOf vm).natAbs)
  case atStart => exact ⟨N, [], Nat.le_refl _, rfl, rfl, by rw [if_neg (by omega), List.append_nil], by simp, hN20, Kept.refl _ _⟩
  case round =>
    obtain ⟨M, suf, hMN, rfl, rfl, hdec, hlen, hpow, hK⟩ := hrel
    by_cases hM : M = 0
    · subst hM
      rw [if_pos rfl] at hdec
      have HD := Lib.hid hdec
      clear hdec hpow
      go_wp2
      go_ret
      exact ⟨by rw [HD.out]; rfl, hK⟩
    · have hMn : ¬ ((M : Int) = 0) := by omega
      have hMb : ((M : Int) == 0) = false := by simpa using hMn
      have hMb2 : ((M : Int) != 0) = true := by simpa using hMn
      have hM64 : M ≤ 9223372036854775807 := by omega
      obtain ⟨d, hd⟩ : ∃ d, d = M % 10 := ⟨_, rfl⟩
      obtain ⟨q, hq⟩ : ∃ q, q = M / 10 := ⟨_, rfl⟩
      have hd9 : d ≤ 9 := by omega
      have hqM : q ≤ M := by omega
      have hqlt : q < M := by omega
      have h1 : ((M : Nat) : Int).tmod 10 = ((d : Nat) : Int) := by rw [hd]; rfl
      have h2 : ((M : Nat) : Int).tdiv 10 = ((q : Nat) : Int) := by rw [hq]; rfl
      have hst : Lib.decDigits N = (if q = 0 then UInt8.ofNat (48 + d) :: suf else Lib.decDigits q ++ UInt8.ofNat (48 + d) :: suf) := by
        rw [hdec, if_neg (by omega)]
        by_cases hs : M < 10
        · rw [dec_small hs, if_pos (by omega), show d = M by omega]; rfl
        · rw [dec_big hs, if_neg (by omega), hd, hq, List.append_assoc]; rfl
      have hp2 : suf.length + 1 ≤ 20 ∧ q < 10 ^ (20 - (suf.length + 1)) := by
        rcases Nat.lt_or_ge suf.length 20 with hl | hl
        · refine ⟨hl, ?_⟩
          rw [show 20 - suf.length = (20 - (suf.length + 1)) + 1 by omega, Nat.pow_succ] at hpow
          rw [hq]; omega
        · rw [show 20 - suf.length = 0 by omega] at hpow
          have : (10 : Nat) ^ 0 = 1 := rfl
          omega
      have HST := Lib.hid hst
      have HP2 := Lib.hid hp2
      obtain ⟨S, hS⟩ : ∃ S : ByteArray, S = ⟨suf.toArray⟩ := ⟨_, rfl⟩
      rw [← hS]
      have hSz : ¬ (9223372036854775807 < (1 : Nat) + S.size) := by
        have : S.size = suf.length := by rw [hS]; rfl
        omega
      have hconv := conv_bytes (P := Tryz.prog) (wr.alloc (.cells #[.int .u8 (48 + (d : Int))] 5)) 43 9 5 Tryz.underlying43 Tryz.underlying5 Tryz.underlying9 1 (digit_holds wr d hd9)
      obtain ⟨T, hT⟩ : ∃ T : ByteArray, T = ⟨[UInt8.ofNat (48 + d)].toArray⟩ := ⟨_, rfl⟩
      rw [← hT] at hconv
      have hTs : T.size = 1 := by rw [hT]; rfl
      have hTS : (⟨(UInt8.ofNat (48 + d) :: suf).toArray⟩ : ByteArray) = T ++ S := by
        rw [hT, hS, ByteArray.mk_append_mk]; rfl
      have HTS := Lib.hid hTS
      clear hq hst hp2 hdec hpow hS hT hTS
      clear hd
      have hdpos : ¬ ((d : Int) < 0) := by omega
      go_wp2
      go_roundw
      case rel => exact ⟨q, UInt8.ofNat (48 + d) :: suf, by omega, rfl, by rw [HTS.out], HST.out, HP2.out.1, HP2.out.2, hK.alloc _⟩
      case measure => simp [intOf]; omega

set_option maxRecDepth 100000 in
set_option maxHeartbeats 3200000 in
theorem nrtext_neg (N : Nat) (w : World) (hN : 0 < N) (hN2 : N ≤ 9223372036854775808) : Calls Tryz.prog 43 #[.int .i64 (-(N : Int))] w fun e w' => e = .returned (.string ⟨(45 :: Lib.decDigits N).toArray⟩) ∧ Kept NoBlock w w' := by
  have hn0 : ¬ ((N : Int) = 0) := by omega
  have hnb : ((N : Int) == 0) = false := by simpa using hn0
  have hN20 : N < 10 ^ 20 := by
    have : (10 : Nat) ^ 20 = 100000000000000000000 := by decide
    omega
  go_enter Tryz.func43, Tryz.ntmps43
  go_wp2
  go_loopw [3, 4] (fun vs vm wr => ∃ (M : Nat) (suf : List UInt8), M ≤ N ∧ vm = .int .i64 (-(M : Int)) ∧ vs = .string ⟨suf.toArray⟩ ∧ Lib.decDigits N = (if M = 0 then suf else Lib.decDigits M ++ suf) ∧ suf.length ≤ 20 ∧ M < 10 ^ (20 - suf.length) ∧ Kept NoBlock w wr) (fun _ vm _ => (intOf vm).natAbs)
  case atStart => exact ⟨N, [], Nat.le_refl _, rfl, rfl, by rw [if_neg (by omega), List.append_nil], by simp, hN20, Kept.refl _ _⟩
  case round =>
    obtain ⟨M, suf, hMN, rfl, rfl, hdec, hlen, hpow, hK⟩ := hrel
    by_cases hM : M = 0
    · subst hM
      rw [if_pos rfl] at hdec
      have HD := Lib.hid hdec
      clear hdec hpow
      obtain ⟨S, hS⟩ : ∃ S : ByteArray, S = ⟨suf.toArray⟩ := ⟨_, rfl⟩
      rw [← hS]
      have hSz : ¬ (9223372036854775807 < (1 : Nat) + S.size) := by
        have : S.size = suf.length := by rw [hS]; rfl
        omega
      have hT : (⟨(45 :: suf).toArray⟩ : ByteArray) = ⟨#[45]⟩ ++ S := by rw [hS]; exact (ByteArray.mk_append_mk [45] suf).symm
      have HT := Lib.hid hT
      clear hS hT
      have hneg : ¬ (0 ≤ (-(N : Int))) := by omega
      have hneg2 : -(N : Int) < 0 := by omega
      go_wp2
      go_ret
      exact ⟨by rw [HD.out, HT.out]; rfl, hK⟩
    · have hMn : ¬ ((M : Int) = 0) := by omega
      have hMb : ((M : Int) == 0) = false := by simpa using hMn
      have hMb2 : ((M : Int) != 0) = true := by simpa using hMn
      have hM64 : M ≤ 9223372036854775808 := by omega
      obtain ⟨d, hd⟩ : ∃ d, d = M % 10 := ⟨_, rfl⟩
      obtain ⟨q, hq⟩ : ∃ q, q = M / 10 := ⟨_, rfl⟩
      have hd9 : d ≤ 9 := by omega
      have hqM : q ≤ M := by omega
      have hqlt : q < M := by omega
      have h2 : (-((M : Nat) : Int)).tdiv 10 = (-((q : Nat) : Int)) := by rw [hq]; rw [Int.neg_tdiv]; rfl
      have hst : Lib.decDigits N = (if q = 0 then UInt8.ofNat (48 + d) :: suf else Lib.decDigits q ++ UInt8.ofNat (48 + d) :: suf) := by
        rw [hdec, if_neg (by omega)]
        by_cases hs : M < 10
        · rw [dec_small hs, if_pos (by omega), show d = M by omega]; rfl
        · rw [dec_big hs, if_neg (by omega), hd, hq, List.append_assoc]; rfl
      have hp2 : suf.length + 1 ≤ 20 ∧ q < 10 ^ (20 - (suf.length + 1)) := by
        rcases Nat.lt_or_ge suf.length 20 with hl | hl
        · refine ⟨hl, ?_⟩
          rw [show 20 - suf.length = (20 - (suf.length + 1)) + 1 by omega, Nat.pow_succ] at hpow
          rw [hq]; omega
        · rw [show 20 - suf.length = 0 by omega] at hpow
          have : (10 : Nat) ^ 0 = 1 := rfl
          omega
      have HST := Lib.hid hst
      have HP2 := Lib.hid hp2
      obtain ⟨S, hS⟩ : ∃ S : ByteArray, S = ⟨suf.toArray⟩ := ⟨_, rfl⟩
      rw [← hS]
      have hSz : ¬ (9223372036854775807 < (1 : Nat) + S.size) := by
        have : S.size = suf.length := by rw [hS]; rfl
        omega
      have hconv := conv_bytes (P := Tryz.prog) (wr.alloc (.cells #[.int .u8 (48 + (d : Int))] 5)) 43 9 5 Tryz.underlying43 Tryz.underlying5 Tryz.underlying9 1 (digit_holds wr d hd9)
      obtain ⟨T, hT⟩ : ∃ T : ByteArray, T = ⟨[UInt8.ofNat (48 + d)].toArray⟩ := ⟨_, rfl⟩
      rw [← hT] at hconv
      have hTs : T.size = 1 := by rw [hT]; rfl
      have hTS : (⟨(UInt8.ofNat (48 + d) :: suf).toArray⟩ : ByteArray) = T ++ S := by
        rw [hT, hS, ByteArray.mk_append_mk]; rfl
      have HTS := Lib.hid hTS
      clear hq hst hp2 hdec hpow hS hT hTS
      have h1 : (-((M : Nat) : Int)).tmod 10 = -((d : Nat) : Int) := by rw [hd, Int.neg_tmod]; rfl
      by_cases hz : d = 0
      · have h1' : (-((M : Nat) : Int)).tmod 10 = ((d : Nat) : Int) := by rw [h1, hz]; rfl
        have hdpos : ¬ ((d : Int) < 0) := by omega
        clear hd h1 hz
        go_wp2
        go_roundw
        case rel => exact ⟨q, UInt8.ofNat (48 + d) :: suf, by omega, rfl, by rw [HTS.out], HST.out, HP2.out.1, HP2.out.2, hK.alloc _⟩
        case measure => simp [intOf]; omega
      · obtain ⟨dd, hdd⟩ : ∃ dd : Int, dd = -((d : Nat) : Int) := ⟨_, rfl⟩
        have h1' : (-((M : Nat) : Int)).tmod 10 = dd := by rw [h1, hdd]
        have hd1 : dd < 0 := by omega
        have hd2 : -dd = (d : Int) := by omega
        have hd3 : -9 ≤ dd := by omega
        clear hd h1 hz hdd
        go_wp2
        go_roundw
        case rel => exact ⟨q, UInt8.ofNat (48 + d) :: suf, by omega, rfl, by rw [HTS.out], HST.out, HP2.out.1, HP2.out.2, hK.alloc _⟩
        case measure => simp [intOf]; omega
theorem nrtext (n : Int) (w : World) (hn : In64 n) : Calls Tryz.prog 43 #[.int .i64 n] w fun e w' => e = .returned (.string ⟨(Lib.itoa n).toArray⟩) ∧ Kept NoBlock w w' := by
  obtain ⟨h1, h2⟩ := hn
  rcases Int.lt_trichotomy n 0 with h | h | h
  · obtain ⟨N, rfl⟩ : ∃ N : Nat, n = -(N : Int) := ⟨n.natAbs, by omega⟩
    rw [Lib.itoa_neg N (by omega)]
    exact nrtext_neg N w (by omega) (by omega)
  · subst h
    have e : Lib.itoa 0 = [48] := by
      have := Lib.itoa_nonneg 0
      rw [dec_small (by omega)] at this
      exact this
    rw [e]
    go_enter Tryz.func43, Tryz.ntmps43
    go_wp2
    go_ret
    exact ⟨rfl, Kept.refl _ _⟩
  · obtain ⟨N, rfl⟩ : ∃ N : Nat, n = (N : Int) := ⟨n.toNat, by omega⟩
    rw [Lib.itoa_nonneg]
    exact nrtext_pos N w (by omega) (by omega)

end Go.Proofs.YtdinkdmkbfbjbaaGreatDoor
namespace Go.Proofs.YtdinkdmkbfbjbaaGreatDoor
open Go.RowKit
open Go.Lib (decDigits)
attribute [local go_sem] fold_part fold_some fold_some' partAt_zero

theorem hx_digit {d : Nat} (h : d < 10) : hx d = UInt8.ofNat (48 + d) := by unfold hx; rw [if_pos h]

set_option maxRecDepth 100000 in
set_option maxHeartbeats 3200000 in
theorem runsigned (N : Nat) (w : World) (hN2 : N < 18446744073709551616) : Calls Tryz.prog 46 #[.int .u64 (N : Int)] w fun e w' => e = .returned (.string ⟨(decDigits N).toArray⟩) ∧ Kept NoBlock w w' := by
  have hN20 : N < 10 ^ 20 := by
    have : (10 : Nat) ^ 20 = 100000000000000000000 := by decide
    omega
  obtain ⟨d, hd⟩ : ∃ d, d = N % 10 := ⟨_, rfl⟩
  obtain ⟨q, hq⟩ : ∃ q, q = N / 10 := ⟨_, rfl⟩
  have hd9 : d < 10 := by omega
  have h1 : ((N : Nat) : Int).tmod 10 = ((d : Nat) : Int) := by rw [hd]; rfl
  have h2 : ((N : Nat) : Int).tdiv 10 = ((q : Nat) : Int) := by rw [hq]; rfl
  obtain ⟨hp1, e1⟩ := digit_idx d (by omega)
  have hc1 := conv_one (hx d) w
  have hst : decDigits N = (if q = 0 then [UInt8.ofNat (48 + d)] else decDigits q ++ [UInt8.ofNat (48 + d)]) := by
    by_cases hs : N < 10
    · rw [dec_small hs, if_pos (by omega), show d = N by omega]
    · rw [dec_big hs, if_neg (by omega), hd, hq]
  have hqp : q < 10 ^ (20 - 1) := by
    have : (10 : Nat) ^ (20 - 1) = 10000000000000000000 := by decide
    omega
  have hd16 : (d : Int) < 16 := by omega
  have HX := Lib.hid (hx_digit hd9)
  have HST := Lib.hid hst
  have HQP := Lib.hid hqp
  have hqN : q ≤ N := by omega
  clear hd hq hst hqp hN20
  go_enter Tryz.func46, Tryz.ntmps46
  go_wp2
  go_loopw [0, 3] (fun vm vs wr => ∃ (M : Nat) (suf : List UInt8), M ≤ N ∧ vm = .int .u64 (M : Int) ∧ vs = .string ⟨suf.toArray⟩ ∧ decDigits N = (if M = 0 then suf else decDigits M ++ suf) ∧ suf.length ≤ 20 ∧ M < 10 ^ (20 - suf.length) ∧ Kept NoBlock w wr) (fun vm _ _ => (intOf vm).toNat)
  case atStart => exact ⟨q, [hx d], hqN, rfl, rfl, by rw [HX.out]; exact HST.out, by simp, HQP.out, Kept.allocd _ _⟩
  case round =>
    clear h1 h2 hp1 e1 hc1 hd16 HX HST HQP hqN hd9
    obtain ⟨M, suf, hMN, rfl, rfl, hdec, hlen, hpow, hK⟩ := hrel
    by_cases hM : M = 0
    · subst hM
      rw [if_pos rfl] at hdec
      have HD := Lib.hid hdec
      clear hdec hpow
      go_wp2
      go_ret
      exact ⟨by rw [HD.out]; rfl, hK⟩
    · have hM0 : (0 : Int) < (M : Int) := by omega
      obtain ⟨d, hd⟩ : ∃ d, d = M % 10 := ⟨_, rfl⟩
      obtain ⟨q, hq⟩ : ∃ q, q = M / 10 := ⟨_, rfl⟩
      have hd9 : d < 10 := by omega
      have hqM : q ≤ M := by omega
      have hqlt : q < M := by omega
      have h1 : ((M : Nat) : Int).tmod 10 = ((d : Nat) : Int) := by rw [hd]; rfl
      have h2 : ((M : Nat) : Int).tdiv 10 = ((q : Nat) : Int) := by rw [hq]; rfl
      have hst : decDigits N = (if q = 0 then hx d :: suf else decDigits q ++ hx d :: suf) := by
        rw [hdec, if_neg hM, hx_digit hd9]
        by_cases hs : M < 10
        · rw [dec_small hs, if_pos (by omega), show d = M by omega]; rfl
        · rw [dec_big hs, if_neg (by omega), hd, hq, List.append_assoc]; rfl
      have hp2 : suf.length + 1 ≤ 20 ∧ q < 10 ^ (20 - (suf.length + 1)) := by
        rcases Nat.lt_or_ge suf.length 20 with hl | hl
        · refine ⟨hl, ?_⟩
          rw [show 20 - suf.length = (20 - (suf.length + 1)) + 1 by omega, Nat.pow_succ] at hpow
          rw [hq]; omega
        · rw [show 20 - suf.length = 0 by omega] at hpow
          have : (10 : Nat) ^ 0 = 1 := rfl
          omega
      have HSTN := Lib.hid hst
      have HP2 := Lib.hid hp2
      obtain ⟨hp1, e1⟩ := digit_idx d (by omega)
      have hd16 : (d : Int) < 16 := by omega
      obtain ⟨S, hS⟩ : ∃ S : ByteArray, S = ⟨suf.toArray⟩ := ⟨_, rfl⟩
      rw [← hS]
      have hSz : ¬ (9223372036854775807 < (1 : Nat) + S.size) := by
        have : S.size = suf.length := by rw [hS]; rfl
        omega
      have hconv := conv_one (hx d) wr
      obtain ⟨T, hT⟩ : ∃ T : ByteArray, T = ⟨#[hx d]⟩ := ⟨_, rfl⟩
      rw [← hT] at hconv
      have hTs : T.size = 1 := by rw [hT]; rfl
      have hTS : (⟨(hx d :: suf).toArray⟩ : ByteArray) = T ++ S := by
        rw [hT, hS, ByteArray.mk_append_mk]; simp
      have HTS := Lib.hid hTS
      clear hq hst hp2 hdec hpow hS hT hTS hd
      go_wp2
      go_roundw
      case rel => exact ⟨q, hx d :: suf, by omega, rfl, by rw [HTS.out], HSTN.out, HP2.out.1, HP2.out.2, hK.alloc _⟩
      case measure => simp [intOf]; omega

theorem rnumber (n : Int) (hn : -9223372036854775808 ≤ n ∧ n ≤ 9223372036854775807) (w : World) : Calls Tryz.prog 26 #[.int .i64 n] w fun e w' => e = .returned (.string ⟨(32 :: Lib.itoa n).toArray⟩) ∧ Kept NoBlock w w' := by
  have hla := itoa_len n hn
  have ht := nrtext n w hn
  obtain ⟨A, hA⟩ : ∃ A : ByteArray, A = ⟨(Lib.itoa n).toArray⟩ := ⟨_, rfl⟩
  have sA : A.size ≤ 30 := by rw [str_size hA]; exact hla
  rw [← hA] at ht
  have e1 := str_app [32] (Lib.itoa n)
  have E1 := Lib.hid e1
  have HA := Lib.hid hA
  have HT := Lib.hid ht
  clear hla ht hA e1
  go_enter Tryz.func26, Tryz.ntmps26
  go_wp2_with (go_at_call 43; refine HT.out.mono ?_; rintro e w2 ⟨rfl, hk2⟩)
  go_ret
  refine ⟨?_, hk2⟩
  rw [HA.out]
  show Ending.returned (.string ((⟨[32].toArray⟩ : ByteArray) ++ _)) = _
  rw [E1.out]
  rfl
end Go.Proofs.YtdinkdmkbfbjbaaGreatDoor
namespace Go.Proofs.YtdinkdmkbfbjbaaGreatDoor
open Go.RowKit
open Go.Lib (decDigits)
attribute [local go_sem] fold_part fold_some fold_some' partAt_zero

theorem wpFloat_ex {P : Program} {ops : Array Oper} {Cl : World → Prop} {K : Act → Prop} {o : Oper} {rest : List Oper} {a : Act} (hg : o.guard = none) (h : ∃ v, (∀ w, Cl w → stillV P w v ((execOp a.eval o).run P w)) ∧ K (a.put o.dst v)) : wpFloat P ops Cl K (o :: rest) a := by
  obtain ⟨v, h1, h2⟩ := h
  exact wpFloat_step v hg h1 h2

set_option maxRecDepth 100000 in
set_option maxHeartbeats 6400000 in
theorem rline (v : Value) (d : Deed) (w : World) (h : DeedV w v d) (hf : d.Fits) :
    Calls Tryz.prog 29 #[v] w fun e w' => e = .returned (.string ⟨(lineD d).toArray⟩) ∧ Kept NoBlock w w' := by
  obtain ⟨bv, rfl, hb⟩ := h
  obtain ⟨k, a, n, dr, b⟩ := d
  obtain ⟨hk, ha, hn, hdr, hbl⟩ := hf
  simp only at hk ha hn hdr hbl hb ⊢
  obtain ⟨ap, cap, rfl, hc, _⟩ := hb.parts
  have hta := fun W => rnumber a ha W
  have htn := fun W => rnumber n hn W
  have htd := fun W => runsigned dr W hdr
  have hqb := fun W (hk : Kept NoBlock w W) => rquote _ b W (hb.keptNo hk) (by omega)
  have hla := itoa_len a ha
  have hln := itoa_len n hn
  have hld := dec_len dr hdr
  have hlq : (quote b).length ≤ 36010 := by have := (quoteA_len b).2; simp only [quote, List.length_cons, List.length_append, List.length_nil]; omega
  obtain ⟨A, hA⟩ : ∃ A : ByteArray, A = ⟨(32 :: Lib.itoa a).toArray⟩ := ⟨_, rfl⟩
  obtain ⟨N, hN⟩ : ∃ A : ByteArray, A = ⟨(32 :: Lib.itoa n).toArray⟩ := ⟨_, rfl⟩
  obtain ⟨D, hD⟩ : ∃ A : ByteArray, A = ⟨(decDigits dr).toArray⟩ := ⟨_, rfl⟩
  obtain ⟨Q, hQ⟩ : ∃ A : ByteArray, A = ⟨(quote b).toArray⟩ := ⟨_, rfl⟩
  have sA : A.size ≤ 31 := by rw [str_size hA, List.length_cons]; omega
  have sN : N.size ≤ 31 := by rw [str_size hN, List.length_cons]; omega
  have sD : D.size ≤ 20 := by rw [str_size hD]; exact hld
  have sQ : Q.size ≤ 36010 := by rw [str_size hQ]; exact hlq
  rw [← hA] at hta
  rw [← hN] at htn
  rw [← hD] at htd
  rw [← hQ] at hqb
  have HTA := Lib.hid hta
  have HTN := Lib.hid htn
  have HTD := Lib.hid htd
  have HQB := Lib.hid hqb
  have HA := Lib.hid hA
  have HN := Lib.hid hN
  have HD := Lib.hid hD
  have HQ := Lib.hid hQ
  have hcells : ∀ W, Kept NoBlock (w.alloc (.cells #[.int .i64 k, .int .i64 a, .int .i64 n, .int .u64 dr, .slice ap b.length cap] 45)) W →
      W.cell? ⟨w.heap.size, 0, none⟩ = some (.int .i64 k) ∧ W.cell? ⟨w.heap.size, 1, none⟩ = some (.int .i64 a) ∧ W.cell? ⟨w.heap.size, 2, none⟩ = some (.int .i64 n) ∧ W.cell? ⟨w.heap.size, 3, none⟩ = some (.int .u64 dr) ∧ W.cell? ⟨w.heap.size, 4, none⟩ = some (.slice ap b.length cap) := fun W hk =>
    blk5 (T := 45) (hk.heap (heap_alloc_new w _) (fun h => h))
  have HCL := Lib.hid hcells
  have HKW := Lib.hid (Kept.allocd w (.cells #[.int .i64 k, .int .i64 a, .int .i64 n, .int .u64 dr, .slice ap b.length cap] 45))
  generalize hL : lineD ⟨k, a, n, dr, b⟩ = L
  have HL := Lib.hid hL
  clear hta htn htd hqb hA hN hD hQ hla hln hld hlq hcells hL hb hk ha hn hdr
  have q1 : ¬ (9223372036854775807 < 4 + A.size) := by omega
  have q2 : ¬ (9223372036854775807 < 4 + A.size + 1) := by omega
  have q3 : ¬ (9223372036854775807 < 4 + A.size + 1 + Q.size) := by omega
  have q4 : ¬ (9223372036854775807 < 2 + A.size) := by omega
  have q5 : ¬ (9223372036854775807 < 2 + A.size + N.size) := by omega
  have q6 : ¬ (9223372036854775807 < 2 + A.size + N.size + 1) := by omega
  have q7 : ¬ (9223372036854775807 < 2 + A.size + N.size + 1 + D.size) := by omega
  have q8 : ¬ (9223372036854775807 < 4 + A.size + N.size) := by omega
  have q9 : ¬ (9223372036854775807 < 7 + A.size) := by omega
  have q10 : ¬ (9223372036854775807 < 7 + A.size + 1) := by omega
  have q11 : ¬ (9223372036854775807 < 7 + A.size + 1 + D.size) := by omega
  by_cases h1 : k = 1
  · subst h1
    go_enter Tryz.func29, Tryz.ntmps29
    go_wp2_with fail
    generalize w.alloc (.cells #[.int .i64 1, .int .i64 a, .int .i64 n, .int .u64 dr, .slice ap b.length cap] 45) = W1 at *
    obtain ⟨d0, d1, d2, d3, d4⟩ := HCL.out _ (Kept.refl _ _)
    refine (HTA.out _).mono ?_
    rintro e w2 ⟨rfl, hk2⟩
    have HK2 := Lib.hid hk2
    clear hk2
    go_wp2_with fail
    go_ret
    refine ⟨?_, HKW.out.trans HK2.out⟩
    rw [← HL.out, HA.out]
    show Ending.returned (.string ((⟨[111, 112, 101, 110].toArray⟩ : ByteArray) ++ ⟨(32 :: Lib.itoa a).toArray⟩)) = _
    simp only [str_app]
    refine congrArg (fun l : Bs => Ending.returned (.string ⟨l.toArray⟩)) ?_
    unfold lineD
    simp
  by_cases h2 : k = 2
  · subst h2
    go_enter Tryz.func29, Tryz.ntmps29
    go_wp2_with fail
    generalize w.alloc (.cells #[.int .i64 2, .int .i64 a, .int .i64 n, .int .u64 dr, .slice ap b.length cap] 45) = W1 at *
    obtain ⟨d0, d1, d2, d3, d4⟩ := HCL.out _ (Kept.refl _ _)
    refine wp_planC (fun W => W.cell? ⟨w.heap.size, 4, none⟩ = some (.slice ap b.length cap)) 10 [.flt 5, .flt 6, .seg [0, 1] 2, .flt 3, .flt 4, .seg [] 7] [8, 9] (by kernel_rfl) (by kernel_rfl) (fun _ _ _ dst _ h => by cases dst <;> exact h) (fun _ _ h => h) d4 (fun n0 => ?_)
    repeat (refine planC_flt rfl rfl ?_; apply Exists.intro; refine ⟨fun w' hw' => ?_, ?_⟩; (go_simp; first | rfl | exact ⟨rfl, rfl⟩); simp only [Act.put, List.setIfInBounds_toArray, List.set_cons_succ, List.set_cons_zero])
    simp only [wpPlanC, pick, List.filterMap_cons, List.filterMap_nil, List.getElem?_cons_succ, List.getElem?_cons_zero]
    repeat (quiet_step (fail))
    refine wpQuiet_nil ?_
    rintro _ ⟨n1, rfl⟩
    go_wp2_with fail
    clear d0 d1 d2 d3 d4
    refine (HTA.out _).mono ?_
    rintro e w2 ⟨rfl, hk2⟩
    have hk2' : Kept NoBlock W1 w2 := ((Kept.refl NoBlock W1).drewN _).trans hk2
    have HK2 := Lib.hid hk2'
    clear hk2 hk2'
    go_wp2_with fail
    refine Halt.mk ⟨.inr (HCL.out _ HK2.out).2.2.2.2, ?_⟩
    repeat (refine wpFloat_ex rfl ?_; apply Exists.intro; refine ⟨fun w' hw' => ?_, ?_⟩; (go_simp; first | rfl | exact ⟨rfl, rfl⟩); simp only [Act.put, List.setIfInBounds_toArray, List.set_cons_succ, List.set_cons_zero])
    go_wp2_with fail
    refine (HQB.out _ (HKW.out.trans HK2.out)).mono ?_
    rintro e w3 ⟨rfl, hk3⟩
    have HK3 := Lib.hid (HK2.out.trans hk3)
    clear hk3
    go_wp2_with fail
    refine Halt.mk ⟨.inr (HCL.out _ HK3.out).2.2.2.2, ?_⟩
    repeat (quiet_step (fail))
    refine wpQuiet_nil ?_
    rintro _ ⟨n2, rfl⟩
    go_wp2_with fail
    go_ret
    refine ⟨?_, HKW.out.trans (HK3.out.drewN _)⟩
    rw [← HL.out, HA.out, HQ.out]
    show Ending.returned (.string ((((⟨[115, 101, 110, 100].toArray⟩ : ByteArray) ++ ⟨(32 :: Lib.itoa a).toArray⟩) ++ ⟨[32].toArray⟩) ++ ⟨(quote b).toArray⟩)) = _
    simp only [str_app]
    refine congrArg (fun l : Bs => Ending.returned (.string ⟨l.toArray⟩)) ?_
    unfold lineD
    simp
  by_cases h3 : k = 3
  · subst h3
    go_enter Tryz.func29, Tryz.ntmps29
    go_wp2_with fail
    generalize w.alloc (.cells #[.int .i64 3, .int .i64 a, .int .i64 n, .int .u64 dr, .slice ap b.length cap] 45) = W1 at *
    obtain ⟨d0, d1, d2, d3, d4⟩ := HCL.out _ (Kept.refl _ _)
    refine wp_planC (fun W => W.cell? ⟨w.heap.size, 2, none⟩ = some (.int .i64 n) ∧ W.cell? ⟨w.heap.size, 3, none⟩ = some (.int .u64 dr)) 14 [.flt 4, .flt 5, .flt 9, .flt 10, .seg [0, 1] 2, .flt 3, .seg [] 6, .flt 7, .flt 8, .seg [] 11] [12, 13] (by kernel_rfl) (by kernel_rfl) (fun _ _ _ dst _ h => by cases dst <;> exact h) (fun _ _ h => h) ⟨d2, d3⟩ (fun n0 => ?_)
    repeat (refine planC_flt rfl rfl ?_; apply Exists.intro; refine ⟨fun w' hw' => ?_, ?_⟩; obtain ⟨hw1, hw2⟩ := hw'; (go_simp; first | rfl | exact ⟨rfl, rfl⟩); simp only [Act.put, List.setIfInBounds_toArray, List.set_cons_succ, List.set_cons_zero])
    simp only [wpPlanC, pick, List.filterMap_cons, List.filterMap_nil, List.getElem?_cons_succ, List.getElem?_cons_zero]
    repeat (quiet_step (fail))
    refine wpQuiet_nil ?_
    rintro _ ⟨n1, rfl⟩
    go_wp2_with fail
    clear d0 d1 d2 d3 d4
    refine (HTA.out _).mono ?_
    rintro e w2 ⟨rfl, hk2⟩
    have hk2' : Kept NoBlock W1 w2 := ((Kept.refl NoBlock W1).drewN _).trans hk2
    have HK2 := Lib.hid hk2'
    clear hk2 hk2'
    go_wp2_with fail
    refine Halt.mk ⟨.inr ⟨(HCL.out _ HK2.out).2.2.1, (HCL.out _ HK2.out).2.2.2.1⟩, ?_⟩
    repeat (refine wpFloat_ex rfl ?_; apply Exists.intro; refine ⟨fun w' hw' => ?_, ?_⟩; (go_simp; first | rfl | exact ⟨rfl, rfl⟩); simp only [Act.put, List.setIfInBounds_toArray, List.set_cons_succ, List.set_cons_zero])
    go_wp2_with fail
    refine (HTN.out _).mono ?_
    rintro e w3 ⟨rfl, hk3⟩
    have HK3 := Lib.hid (HK2.out.trans hk3)
    clear hk3
    go_wp2_with fail
    refine Halt.mk ⟨.inr ⟨(HCL.out _ HK3.out).2.2.1, (HCL.out _ HK3.out).2.2.2.1⟩, ?_⟩
    repeat (refine wpFloat_ex rfl ?_; apply Exists.intro; refine ⟨fun w' hw' => ?_, ?_⟩; (go_simp; first | rfl | exact ⟨rfl, rfl⟩); simp only [Act.put, List.setIfInBounds_toArray, List.set_cons_succ, List.set_cons_zero])
    go_wp2_with fail
    refine (HTD.out _).mono ?_
    rintro e w4 ⟨rfl, hk4⟩
    have HK4 := Lib.hid (HK3.out.trans hk4)
    clear hk4
    go_wp2_with fail
    refine Halt.mk ⟨.inr ⟨(HCL.out _ HK4.out).2.2.1, (HCL.out _ HK4.out).2.2.2.1⟩, ?_⟩
    repeat (quiet_step (fail))
    refine wpQuiet_nil ?_
    rintro _ ⟨n2, rfl⟩
    go_wp2_with fail
    go_ret
    refine ⟨?_, HKW.out.trans (HK4.out.drewN _)⟩
    rw [← HL.out, HA.out, HN.out, HD.out]
    show Ending.returned (.string (((((⟨[117, 112].toArray⟩ : ByteArray) ++ ⟨(32 :: Lib.itoa a).toArray⟩) ++ ⟨(32 :: Lib.itoa n).toArray⟩) ++ ⟨[32].toArray⟩) ++ ⟨(decDigits dr).toArray⟩)) = _
    simp only [str_app]
    refine congrArg (fun l : Bs => Ending.returned (.string ⟨l.toArray⟩)) ?_
    unfold lineD
    simp
  by_cases h4 : k = 4
  · subst h4
    go_enter Tryz.func29, Tryz.ntmps29
    go_wp2_with fail
    generalize w.alloc (.cells #[.int .i64 4, .int .i64 a, .int .i64 n, .int .u64 dr, .slice ap b.length cap] 45) = W1 at *
    obtain ⟨d0, d1, d2, d3, d4⟩ := HCL.out _ (Kept.refl _ _)
    refine wp_planC (fun W => W.cell? ⟨w.heap.size, 2, none⟩ = some (.int .i64 n)) 9 [.flt 4, .flt 5, .seg [0, 1] 2, .flt 3, .seg [] 6] [7, 8] (by kernel_rfl) (by kernel_rfl) (fun _ _ _ dst _ h => by cases dst <;> exact h) (fun _ _ h => h) d2 (fun n0 => ?_)
    repeat (refine planC_flt rfl rfl ?_; apply Exists.intro; refine ⟨fun w' hw' => ?_, ?_⟩; (go_simp; first | rfl | exact ⟨rfl, rfl⟩); simp only [Act.put, List.setIfInBounds_toArray, List.set_cons_succ, List.set_cons_zero])
    simp only [wpPlanC, pick, List.filterMap_cons, List.filterMap_nil, List.getElem?_cons_succ, List.getElem?_cons_zero]
    repeat (quiet_step (fail))
    refine wpQuiet_nil ?_
    rintro _ ⟨n1, rfl⟩
    go_wp2_with fail
    clear d0 d1 d2 d3 d4
    refine (HTA.out _).mono ?_
    rintro e w2 ⟨rfl, hk2⟩
    have hk2' : Kept NoBlock W1 w2 := ((Kept.refl NoBlock W1).drewN _).trans hk2
    have HK2 := Lib.hid hk2'
    clear hk2 hk2'
    go_wp2_with fail
    refine Halt.mk ⟨.inr (HCL.out _ HK2.out).2.2.1, ?_⟩
    repeat (refine wpFloat_ex rfl ?_; apply Exists.intro; refine ⟨fun w' hw' => ?_, ?_⟩; (go_simp; first | rfl | exact ⟨rfl, rfl⟩); simp only [Act.put, List.setIfInBounds_toArray, List.set_cons_succ, List.set_cons_zero])
    go_wp2_with fail
    refine (HTN.out _).mono ?_
    rintro e w3 ⟨rfl, hk3⟩
    have HK3 := Lib.hid (HK2.out.trans hk3)
    clear hk3
    go_wp2_with fail
    refine Halt.mk ⟨.inr (HCL.out _ HK3.out).2.2.1, ?_⟩
    repeat (quiet_step (fail))
    refine wpQuiet_nil ?_
    rintro _ ⟨n2, rfl⟩
    go_wp2_with fail
    go_ret
    refine ⟨?_, HKW.out.trans (HK3.out.drewN _)⟩
    rw [← HL.out, HA.out, HN.out]
    show Ending.returned (.string (((⟨[100, 111, 119, 110].toArray⟩ : ByteArray) ++ ⟨(32 :: Lib.itoa a).toArray⟩) ++ ⟨(32 :: Lib.itoa n).toArray⟩)) = _
    simp only [str_app]
    refine congrArg (fun l : Bs => Ending.returned (.string ⟨l.toArray⟩)) ?_
    unfold lineD
    simp
  by_cases h5 : k = 5
  · subst h5
    go_enter Tryz.func29, Tryz.ntmps29
    go_wp2_with fail
    generalize w.alloc (.cells #[.int .i64 5, .int .i64 a, .int .i64 n, .int .u64 dr, .slice ap b.length cap] 45) = W1 at *
    obtain ⟨d0, d1, d2, d3, d4⟩ := HCL.out _ (Kept.refl _ _)
    refine (HTA.out _).mono ?_
    rintro e w2 ⟨rfl, hk2⟩
    have HK2 := Lib.hid hk2
    clear hk2
    go_wp2_with fail
    go_ret
    refine ⟨?_, HKW.out.trans HK2.out⟩
    rw [← HL.out, HA.out]
    show Ending.returned (.string ((⟨[99, 117, 116].toArray⟩ : ByteArray) ++ ⟨(32 :: Lib.itoa a).toArray⟩)) = _
    simp only [str_app]
    refine congrArg (fun l : Bs => Ending.returned (.string ⟨l.toArray⟩)) ?_
    unfold lineD
    simp
  by_cases h6 : k = 6
  · subst h6
    go_enter Tryz.func29, Tryz.ntmps29
    go_wp2_with fail
    generalize w.alloc (.cells #[.int .i64 6, .int .i64 a, .int .i64 n, .int .u64 dr, .slice ap b.length cap] 45) = W1 at *
    obtain ⟨d0, d1, d2, d3, d4⟩ := HCL.out _ (Kept.refl _ _)
    refine wp_planC (fun W => W.cell? ⟨w.heap.size, 2, none⟩ = some (.int .i64 n)) 9 [.flt 4, .flt 5, .seg [0, 1] 2, .flt 3, .seg [] 6] [7, 8] (by kernel_rfl) (by kernel_rfl) (fun _ _ _ dst _ h => by cases dst <;> exact h) (fun _ _ h => h) d2 (fun n0 => ?_)
    repeat (refine planC_flt rfl rfl ?_; apply Exists.intro; refine ⟨fun w' hw' => ?_, ?_⟩; (go_simp; first | rfl | exact ⟨rfl, rfl⟩); simp only [Act.put, List.setIfInBounds_toArray, List.set_cons_succ, List.set_cons_zero])
    simp only [wpPlanC, pick, List.filterMap_cons, List.filterMap_nil, List.getElem?_cons_succ, List.getElem?_cons_zero]
    repeat (quiet_step (fail))
    refine wpQuiet_nil ?_
    rintro _ ⟨n1, rfl⟩
    go_wp2_with fail
    clear d0 d1 d2 d3 d4
    refine (HTA.out _).mono ?_
    rintro e w2 ⟨rfl, hk2⟩
    have hk2' : Kept NoBlock W1 w2 := ((Kept.refl NoBlock W1).drewN _).trans hk2
    have HK2 := Lib.hid hk2'
    clear hk2 hk2'
    go_wp2_with fail
    refine Halt.mk ⟨.inr (HCL.out _ HK2.out).2.2.1, ?_⟩
    repeat (refine wpFloat_ex rfl ?_; apply Exists.intro; refine ⟨fun w' hw' => ?_, ?_⟩; (go_simp; first | rfl | exact ⟨rfl, rfl⟩); simp only [Act.put, List.setIfInBounds_toArray, List.set_cons_succ, List.set_cons_zero])
    go_wp2_with fail
    refine (HTN.out _).mono ?_
    rintro e w3 ⟨rfl, hk3⟩
    have HK3 := Lib.hid (HK2.out.trans hk3)
    clear hk3
    go_wp2_with fail
    refine Halt.mk ⟨.inr (HCL.out _ HK3.out).2.2.1, ?_⟩
    repeat (quiet_step (fail))
    refine wpQuiet_nil ?_
    rintro _ ⟨n2, rfl⟩
    go_wp2_with fail
    go_ret
    refine ⟨?_, HKW.out.trans (HK3.out.drewN _)⟩
    rw [← HL.out, HA.out, HN.out]
    show Ending.returned (.string (((⟨[116, 105, 99, 107].toArray⟩ : ByteArray) ++ ⟨(32 :: Lib.itoa a).toArray⟩) ++ ⟨(32 :: Lib.itoa n).toArray⟩)) = _
    simp only [str_app]
    refine congrArg (fun l : Bs => Ending.returned (.string ⟨l.toArray⟩)) ?_
    unfold lineD
    simp
  by_cases h7 : k = 7
  · subst h7
    go_enter Tryz.func29, Tryz.ntmps29
    go_wp2_with fail
    generalize w.alloc (.cells #[.int .i64 7, .int .i64 a, .int .i64 n, .int .u64 dr, .slice ap b.length cap] 45) = W1 at *
    obtain ⟨d0, d1, d2, d3, d4⟩ := HCL.out _ (Kept.refl _ _)
    refine wp_planC (fun W => W.cell? ⟨w.heap.size, 3, none⟩ = some (.int .u64 dr)) 10 [.flt 5, .flt 6, .seg [0, 1] 2, .flt 3, .flt 4, .seg [] 7] [8, 9] (by kernel_rfl) (by kernel_rfl) (fun _ _ _ dst _ h => by cases dst <;> exact h) (fun _ _ h => h) d3 (fun n0 => ?_)
    repeat (refine planC_flt rfl rfl ?_; apply Exists.intro; refine ⟨fun w' hw' => ?_, ?_⟩; (go_simp; first | rfl | exact ⟨rfl, rfl⟩); simp only [Act.put, List.setIfInBounds_toArray, List.set_cons_succ, List.set_cons_zero])
    simp only [wpPlanC, pick, List.filterMap_cons, List.filterMap_nil, List.getElem?_cons_succ, List.getElem?_cons_zero]
    repeat (quiet_step (fail))
    refine wpQuiet_nil ?_
    rintro _ ⟨n1, rfl⟩
    go_wp2_with fail
    clear d0 d1 d2 d3 d4
    refine (HTA.out _).mono ?_
    rintro e w2 ⟨rfl, hk2⟩
    have hk2' : Kept NoBlock W1 w2 := ((Kept.refl NoBlock W1).drewN _).trans hk2
    have HK2 := Lib.hid hk2'
    clear hk2 hk2'
    go_wp2_with fail
    refine Halt.mk ⟨.inr (HCL.out _ HK2.out).2.2.2.1, ?_⟩
    repeat (refine wpFloat_ex rfl ?_; apply Exists.intro; refine ⟨fun w' hw' => ?_, ?_⟩; (go_simp; first | rfl | exact ⟨rfl, rfl⟩); simp only [Act.put, List.setIfInBounds_toArray, List.set_cons_succ, List.set_cons_zero])
    go_wp2_with fail
    refine (HTD.out _).mono ?_
    rintro e w3 ⟨rfl, hk3⟩
    have HK3 := Lib.hid (HK2.out.trans hk3)
    clear hk3
    go_wp2_with fail
    refine Halt.mk ⟨.inr (HCL.out _ HK3.out).2.2.2.1, ?_⟩
    repeat (quiet_step (fail))
    refine wpQuiet_nil ?_
    rintro _ ⟨n2, rfl⟩
    go_wp2_with fail
    go_ret
    refine ⟨?_, HKW.out.trans (HK3.out.drewN _)⟩
    rw [← HL.out, HA.out, HD.out]
    show Ending.returned (.string ((((⟨[114, 101, 115, 116, 97, 114, 116].toArray⟩ : ByteArray) ++ ⟨(32 :: Lib.itoa a).toArray⟩) ++ ⟨[32].toArray⟩) ++ ⟨(decDigits dr).toArray⟩)) = _
    simp only [str_app]
    refine congrArg (fun l : Bs => Ending.returned (.string ⟨l.toArray⟩)) ?_
    unfold lineD
    simp
  go_enter Tryz.func29, Tryz.ntmps29
  go_wp2_with fail
  go_ret
  refine ⟨?_, HKW.out⟩
  rw [← HL.out]
  unfold lineD
  simp only [h1, h2, h3, h4, h5, h6, h7, if_false]
  rfl
end Go.Proofs.YtdinkdmkbfbjbaaGreatDoor
namespace Go.Proofs.YtdinkdmkbfbjbaaGreatDoor
open Go.RowKit
attribute [local go_sem] fold_part fold_some fold_some' partAt_zero

def sameD (d e : Deed) : Bool := decide (d.kind = e.kind ∧ d.a = e.a ∧ d.n = e.n ∧ d.draw = e.draw ∧ d.b = e.b)

theorem toList_eqb (x y : Bs) : ((⟨x.toArray⟩ : ByteArray).toList == (⟨y.toArray⟩ : ByteArray).toList) = decide (x = y) := by
  rw [Go.ByteArray.toList_eq, Go.ByteArray.toList_eq]
  simp [Bool.beq_eq_decide_eq]

set_option maxRecDepth 100000 in
set_option maxHeartbeats 3200000 in
theorem rsame (v u : Value) (d e : Deed) (w : World) (h : DeedV w v d) (h' : DeedV w u e) :
    Calls Tryz.prog 15 #[v, u] w fun r w' => r = .returned (.bool (sameD d e)) ∧ Kept NoBlock w w' := by
  obtain ⟨bv, rfl, hb⟩ := h
  obtain ⟨bu, rfl, hb'⟩ := h'
  obtain ⟨k, a, n, dr, b⟩ := d
  obtain ⟨k', a', n', dr', b'⟩ := e
  simp only at hb hb' ⊢
  generalize hM : sameD ⟨k, a, n, dr, b⟩ ⟨k', a', n', dr', b'⟩ = M
  unfold sameD at hM
  simp only at hM
  have HM := Lib.hid hM
  clear hM
  obtain ⟨ap, cap, rfl, hc, hz⟩ := hb.parts
  obtain ⟨ap', cap', rfl, hc', hz'⟩ := hb'.parts
  have HB := Lib.hid hb
  have HB' := Lib.hid hb'
  have HKW := Lib.hid ((Kept.allocd w (.cells #[.int .i64 k, .int .i64 a, .int .i64 n, .int .u64 dr, .slice ap b.length cap] 45)).alloc (.cells #[.int .i64 k', .int .i64 a', .int .i64 n', .int .u64 dr', .slice ap' b'.length cap'] 45))
  have hcl : ∀ W, Kept NoBlock ((w.alloc (.cells #[.int .i64 k, .int .i64 a, .int .i64 n, .int .u64 dr, .slice ap b.length cap] 45)).alloc (.cells #[.int .i64 k', .int .i64 a', .int .i64 n', .int .u64 dr', .slice ap' b'.length cap'] 45)) W → 
      (W.cell? ⟨w.heap.size, 0, none⟩ = some (.int .i64 k) ∧ W.cell? ⟨w.heap.size, 1, none⟩ = some (.int .i64 a) ∧ W.cell? ⟨w.heap.size, 2, none⟩ = some (.int .i64 n) ∧ W.cell? ⟨w.heap.size, 3, none⟩ = some (.int .u64 dr) ∧ W.cell? ⟨w.heap.size, 4, none⟩ = some (.slice ap b.length cap)) ∧
      (W.cell? ⟨w.heap.size + 1, 0, none⟩ = some (.int .i64 k') ∧ W.cell? ⟨w.heap.size + 1, 1, none⟩ = some (.int .i64 a') ∧ W.cell? ⟨w.heap.size + 1, 2, none⟩ = some (.int .i64 n') ∧ W.cell? ⟨w.heap.size + 1, 3, none⟩ = some (.int .u64 dr') ∧ W.cell? ⟨w.heap.size + 1, 4, none⟩ = some (.slice ap' b'.length cap')) := fun W hk =>
    ⟨blk5 (T := 45) (hk.heap ((Kept.allocd _ _).heap (heap_alloc_new w _) (fun h => h)) (fun h => h)), blk5 (T := 45) (hk.heap (by have := heap_alloc_new (w.alloc (.cells #[.int .i64 k, .int .i64 a, .int .i64 n, .int .u64 dr, .slice ap b.length cap] 45)) (.cells #[.int .i64 k', .int .i64 a', .int .i64 n', .int .u64 dr', .slice ap' b'.length cap'] 45); simpa using this) (fun h => h))⟩
  have HCL := Lib.hid hcl
  clear hcl hb hb'
  by_cases h0 : ¬ (k = k')
  · obtain rfl : false = M := by rw [← HM.out]; simp [h0]
    have h0b : (k == k') = false := by simpa using h0
    go_enter Tryz.func15, Tryz.ntmps15
    go_wp2
    go_ret
    exact ⟨rfl, HKW.out⟩
  by_cases h1 : ¬ (a = a')
  · obtain rfl : false = M := by rw [← HM.out]; simp [h1]
    have h1b : (a == a') = false := by simpa using h1
    have g0 := Classical.not_not.1 h0
    clear h0
    subst g0
    go_enter Tryz.func15, Tryz.ntmps15
    go_wp2
    go_ret
    exact ⟨rfl, HKW.out⟩
  by_cases h2 : ¬ (n = n')
  · obtain rfl : false = M := by rw [← HM.out]; simp [h2]
    have h2b : (n == n') = false := by simpa using h2
    have g0 := Classical.not_not.1 h0; have g1 := Classical.not_not.1 h1
    clear h0 h1
    subst g0
    subst g1
    go_enter Tryz.func15, Tryz.ntmps15
    go_wp2
    go_ret
    exact ⟨rfl, HKW.out⟩
  by_cases h3 : ¬ (dr = dr')
  · obtain rfl : false = M := by rw [← HM.out]; simp [h3]
    have h3I : ¬ ((dr : Int) = (dr' : Int)) := by omega
    have h3b : ((dr : Int) == (dr' : Int)) = false := by simpa using h3I
    clear h3I
    have g0 := Classical.not_not.1 h0; have g1 := Classical.not_not.1 h1; have g2 := Classical.not_not.1 h2
    clear h0 h1 h2
    subst g0
    subst g1
    subst g2
    go_enter Tryz.func15, Tryz.ntmps15
    go_wp2
    go_ret
    exact ⟨rfl, HKW.out⟩
  obtain rfl := Classical.not_not.1 h0
  obtain rfl := Classical.not_not.1 h1
  obtain rfl := Classical.not_not.1 h2
  obtain rfl := Classical.not_not.1 h3
  clear h0 h1 h2 h3
  have hM2 : M = decide (b = b') := by rw [← HM.out]; simp
  clear HM
  have HM2 := Lib.hid hM2
  clear hM2
  have hcv := conv_bytes (P := Tryz.prog) ((w.alloc (.cells #[.int .i64 k, .int .i64 a, .int .i64 n, .int .u64 dr, .slice ap b.length cap] 45)).alloc (.cells #[.int .i64 k, .int .i64 a, .int .i64 n, .int .u64 dr, .slice ap' b'.length cap'] 45)) 43 9 5 Tryz.underlying43 Tryz.underlying5 Tryz.underlying9 cap (RowV.holds (HB.out.keptNo HKW.out)).1
  have hcv' := conv_bytes (P := Tryz.prog) ((w.alloc (.cells #[.int .i64 k, .int .i64 a, .int .i64 n, .int .u64 dr, .slice ap b.length cap] 45)).alloc (.cells #[.int .i64 k, .int .i64 a, .int .i64 n, .int .u64 dr, .slice ap' b'.length cap'] 45)) 43 9 5 Tryz.underlying43 Tryz.underlying5 Tryz.underlying9 cap' (RowV.holds (HB'.out.keptNo HKW.out)).1
  have heq := toList_eqb b b'
  rw [← HM2.out] at heq
  obtain ⟨T1, hT1⟩ : ∃ T : ByteArray, T = ⟨b.toArray⟩ := ⟨_, rfl⟩
  obtain ⟨T2, hT2⟩ : ∃ T : ByteArray, T = ⟨b'.toArray⟩ := ⟨_, rfl⟩
  rw [← hT1] at hcv heq
  rw [← hT2] at hcv' heq
  have heqd : decide (T1.toList = T2.toList) = M := by rw [← heq]; simp [Bool.beq_eq_decide_eq]
  clear hT1 hT2 HM2
  go_enter Tryz.func15, Tryz.ntmps15
  go_wp2_with fail
  go_ret
  refine ⟨?_, HKW.out⟩
  first | rfl | (rw [← heq]; rfl) | (rw [← heqd]; rfl)
end Go.Proofs.YtdinkdmkbfbjbaaGreatDoor
namespace Go.Proofs.YtdinkdmkbfbjbaaGreatDoor
open Go.RowKit
attribute [local go_sem] fold_part fold_some fold_some' partAt_zero

def bareD (d : Deed) : Bool :=
  if d.kind = 2 then d.n == 0 && d.draw == 0
  else if d.kind = 3 then d.b.isEmpty
  else if d.kind = 4 ∨ d.kind = 6 then d.b.isEmpty && d.draw == 0
  else if d.kind = 7 then d.b.isEmpty && d.n == 0
  else d.b.isEmpty && d.n == 0 && d.draw == 0

set_option maxRecDepth 100000 in
set_option maxHeartbeats 6400000 in
theorem pbare (v : Value) (d : Deed) (w : World) (h : DeedV w v d) :
    Calls Tryz.prog 30 #[v] w fun r w' => r = .returned (.bool (bareD d)) ∧ Kept NoBlock w w' := by
  obtain ⟨bv, rfl, hb⟩ := h
  obtain ⟨k, a, n, dr, b⟩ := d
  simp only at hb ⊢
  generalize hM : bareD ⟨k, a, n, dr, b⟩ = M
  have HM := Lib.hid hM
  clear hM
  obtain ⟨ap, cap, rfl, hc, hz⟩ := hb.parts
  clear hb hc hz
  have hbs : b = [] ∨ (b ≠ [] ∧ ¬ ((b.length : Int) = 0) ∧ ((b.length : Int) == 0) = false) := by
    cases b with
    | nil => exact .inl rfl
    | cons c t => exact .inr ⟨by simp, by simp only [List.length_cons]; omega, by rw [beq_eq_false_iff_ne]; simp only [List.length_cons]; omega⟩
  have hns : n = 0 ∨ (¬ n = 0 ∧ (n == 0) = false) := by
    by_cases h : n = 0
    · exact .inl h
    · exact .inr ⟨h, by simpa using h⟩
  have hds : dr = 0 ∨ (¬ dr = 0 ∧ ¬ ((dr : Int) = 0) ∧ ((dr : Int) == 0) = false) := by
    by_cases h : dr = 0
    · exact .inl h
    · exact .inr ⟨h, by omega, by rw [beq_eq_false_iff_ne]; omega⟩
  by_cases h2 : k = 2
  · subst h2
    rcases hbs with rfl | ⟨hb0, hb1, hb2⟩ <;> rcases hns with rfl | ⟨hn0, hn1⟩ <;> rcases hds with rfl | ⟨hd0, hd1, hd2⟩
    all_goals
      try (have HB0 := Lib.hid hb0; clear hb0)
      try (generalize b.length = m at *)
      go_enter Tryz.func30, Tryz.ntmps30
      go_wp2
      go_quiet (fail)
      go_wp2
      go_ret
      refine ⟨?_, ((Kept.refl NoBlock w).alloc _).drewN _⟩
      have hM := HM.out
      cases M <;> first | rfl | (exfalso; (try have hb0 := HB0.out); unfold bareD at hM; simp_all)
  by_cases h3 : k = 3
  · subst h3
    rcases hbs with rfl | ⟨hb0, hb1, hb2⟩ <;> rcases hns with rfl | ⟨hn0, hn1⟩ <;> rcases hds with rfl | ⟨hd0, hd1, hd2⟩
    all_goals
      try (have HB0 := Lib.hid hb0; clear hb0)
      try (generalize b.length = m at *)
      go_enter Tryz.func30, Tryz.ntmps30
      go_wp2
      go_quiet (fail)
      go_wp2
      go_ret
      refine ⟨?_, ((Kept.refl NoBlock w).alloc _).drewN _⟩
      have hM := HM.out
      cases M <;> first | rfl | (exfalso; (try have hb0 := HB0.out); unfold bareD at hM; simp_all)
  by_cases h4 : k = 4
  · subst h4
    rcases hbs with rfl | ⟨hb0, hb1, hb2⟩ <;> rcases hns with rfl | ⟨hn0, hn1⟩ <;> rcases hds with rfl | ⟨hd0, hd1, hd2⟩
    all_goals
      try (have HB0 := Lib.hid hb0; clear hb0)
      try (generalize b.length = m at *)
      go_enter Tryz.func30, Tryz.ntmps30
      go_wp2
      go_quiet (fail)
      go_wp2
      go_ret
      refine ⟨?_, ((Kept.refl NoBlock w).alloc _).drewN _⟩
      have hM := HM.out
      cases M <;> first | rfl | (exfalso; (try have hb0 := HB0.out); unfold bareD at hM; simp_all)
  by_cases h6 : k = 6
  · subst h6
    rcases hbs with rfl | ⟨hb0, hb1, hb2⟩ <;> rcases hns with rfl | ⟨hn0, hn1⟩ <;> rcases hds with rfl | ⟨hd0, hd1, hd2⟩
    all_goals
      try (have HB0 := Lib.hid hb0; clear hb0)
      try (generalize b.length = m at *)
      go_enter Tryz.func30, Tryz.ntmps30
      go_wp2
      go_quiet (fail)
      go_wp2
      go_ret
      refine ⟨?_, ((Kept.refl NoBlock w).alloc _).drewN _⟩
      have hM := HM.out
      cases M <;> first | rfl | (exfalso; (try have hb0 := HB0.out); unfold bareD at hM; simp_all)
  by_cases h7 : k = 7
  · subst h7
    rcases hbs with rfl | ⟨hb0, hb1, hb2⟩ <;> rcases hns with rfl | ⟨hn0, hn1⟩ <;> rcases hds with rfl | ⟨hd0, hd1, hd2⟩
    all_goals
      try (have HB0 := Lib.hid hb0; clear hb0)
      try (generalize b.length = m at *)
      go_enter Tryz.func30, Tryz.ntmps30
      go_wp2
      go_quiet (fail)
      go_wp2
      go_ret
      refine ⟨?_, ((Kept.refl NoBlock w).alloc _).drewN _⟩
      have hM := HM.out
      cases M <;> first | rfl | (exfalso; (try have hb0 := HB0.out); unfold bareD at hM; simp_all)
  rcases hbs with rfl | ⟨hb0, hb1, hb2⟩ <;> rcases hns with rfl | ⟨hn0, hn1⟩ <;> rcases hds with rfl | ⟨hd0, hd1, hd2⟩
  all_goals
    try (have HB0 := Lib.hid hb0; clear hb0)
    try (generalize b.length = m at *)
    go_enter Tryz.func30, Tryz.ntmps30
    go_wp2
    go_quiet (fail)
    go_wp2
    go_ret
    refine ⟨?_, ((Kept.refl NoBlock w).alloc _).drewN _⟩
    have hM := HM.out
    cases M <;> first | rfl | (exfalso; (try have hb0 := HB0.out); unfold bareD at hM; simp_all)
end Go.Proofs.YtdinkdmkbfbjbaaGreatDoor
namespace Go.Proofs.YtdinkdmkbfbjbaaGreatDoor
open Go.RowKit
attribute [local go_sem] fold_part fold_some fold_some' partAt_zero

theorem results_cell {fn : Func} {p : Tmp} {ty : TypeId} (h : fn.results = #[.cell p ty]) (tmps : Array Value) (P : Program) (w : World) :
    (results fn tmps).run P w = ((asAddr (tmps.getD p undef)).run P w).andThen fun a w₁ => (loadVar ty a).run P w₁ := by
  simp only [results, h]
  simp [Sem.run_bind, Result.andThen]
theorem Kept.own {w w' : World} (h : Kept NoBlock w w') {g : Nat} (hg : w.heap.size ≤ g) (i : Nat) (v : Value) : Kept NoBlock w (w'.setCell ⟨g, i, none⟩ v) :=
  h.setCell (p := ⟨g, i, none⟩) (fun hlt => absurd hlt (by simp; omega)) v

def shownD (d : Deed) : Deed :=
  if d.kind = 2 then ⟨d.kind, d.a, 0, 0, d.b⟩
  else if d.kind = 3 then ⟨d.kind, d.a, d.n, d.draw, []⟩
  else if d.kind = 4 ∨ d.kind = 6 then ⟨d.kind, d.a, d.n, 0, []⟩
  else if d.kind = 7 then ⟨d.kind, d.a, 0, d.draw, []⟩
  else ⟨d.kind, d.a, 0, 0, []⟩

/-- To show a deed's line is to show all of it, just if the rest is zero. -/
theorem same_shown (d : Deed) : sameD (shownD d) d = bareD d := by
  obtain ⟨k, a, n, dr, b⟩ := d
  unfold sameD shownD bareD
  have e1 : (([] : Bs) = b) = (b.isEmpty = true) := by cases b <;> simp
  have e2 : ((0 : Int) = n) = (n = 0) := propext ⟨Eq.symm, Eq.symm⟩
  have e3 : ((0 : Nat) = dr) = (dr = 0) := propext ⟨Eq.symm, Eq.symm⟩
  simp only
  by_cases h2 : k = 2
  · simp [h2, e2, e3]
    rw [Bool.eq_iff_iff]; simp
  by_cases h3 : k = 3
  · subst h3
    cases b <;> simp
  by_cases h4 : k = 4 ∨ k = 6
  · simp only [h2, h3, h4, if_true, if_false]
    rw [Bool.eq_iff_iff]; simp [e1, e3]; exact And.comm
  by_cases h7 : k = 7
  · simp only [h2, h3, h4, h7, if_true, if_false]
    rw [Bool.eq_iff_iff]; simp [e1, e2]; exact And.comm
  · simp only [h2, h3, h4, h7, if_false]
    rw [Bool.eq_iff_iff]; simp [e1, e2, e3]
    constructor
    · rintro ⟨x, y, z⟩; exact ⟨⟨z, x⟩, y⟩
    · rintro ⟨⟨x, y⟩, z⟩; exact ⟨y, z, x⟩

theorem shown_end {w w' : World} {D : Deed} {bv : Value} (hb : BytesV w bv D.b) (hk : Kept NoBlock w w') :
    ∃ v', Ending.returned (.agg #[.int .i64 D.kind, .int .i64 D.a, .int .i64 D.n, .int .u64 D.draw, bv]) = .returned v' ∧ DeedV w' v' D ∧ Kept NoBlock w w' := ⟨_, rfl, ⟨_, rfl, hb.keptNo hk⟩, hk⟩

end Go.Proofs.YtdinkdmkbfbjbaaGreatDoor
namespace Go.Proofs.YtdinkdmkbfbjbaaGreatDoor
open Go.RowKit
attribute [local go_sem] fold_part fold_some fold_some' partAt_zero

/-- A deed's text and its code. -/
def textD (d : Deed) : Bs × Int := if lineD d = [] then ([], 251) else if bareD d = true then (lineD d, 0) else ([], 251)

set_option maxRecDepth 100000 in
set_option maxHeartbeats 1600000 in
theorem ptext (v : Value) (d : Deed) (w : World) (hV : Vs w) (h : DeedV w v d) (hf : d.Fits) :
    Calls Tryz.prog 16 #[v] w fun e w' => e = .returned (.tuple #[.string ⟨(textD d).1.toArray⟩, .int .i64 (textD d).2]) ∧ Kept NoBlock w w' := by
  have hln := fun W (hk : Kept NoBlock w W) => pline v d W (hV.below hk.toB) (by obtain ⟨bv, rfl, hb⟩ := h; exact ⟨bv, rfl, hb.keptNo hk⟩) hf
  have hbr := fun W (hk : Kept NoBlock w W) => pbare v d W (by obtain ⟨bv, rfl, hb⟩ := h; exact ⟨bv, rfl, hb.keptNo hk⟩)
  obtain ⟨bv, rfl, hb⟩ := h
  obtain ⟨k, a, n, dr, b⟩ := d
  simp only at hb hln hbr ⊢
  obtain ⟨ap, cap, rfl, hc, hz⟩ := hb.parts
  generalize hT : textD ⟨k, a, n, dr, b⟩ = T
  have HT := Lib.hid hT
  have HLN := Lib.hid hln
  have HBR := Lib.hid hbr
  have HKW := Lib.hid (Kept.allocd w (.cells #[.int .i64 k, .int .i64 a, .int .i64 n, .int .u64 dr, .slice ap b.length cap] 45))
  have hcells : ∀ W, Kept NoBlock (w.alloc (.cells #[.int .i64 k, .int .i64 a, .int .i64 n, .int .u64 dr, .slice ap b.length cap] 45)) W →
      W.cell? ⟨w.heap.size, 0, none⟩ = some (.int .i64 k) ∧ W.cell? ⟨w.heap.size, 1, none⟩ = some (.int .i64 a) ∧ W.cell? ⟨w.heap.size, 2, none⟩ = some (.int .i64 n) ∧ W.cell? ⟨w.heap.size, 3, none⟩ = some (.int .u64 dr) ∧ W.cell? ⟨w.heap.size, 4, none⟩ = some (.slice ap b.length cap) := fun W hk =>
    blk5 (T := 45) (hk.heap (heap_alloc_new w _) (fun h => h))
  have HCL := Lib.hid hcells
  clear hT hln hbr hb hc hz hf hV hcells
  generalize hm : b.length = m at *
  clear hm
  unfold textD at HT
  generalize lineD ⟨k, a, n, dr, b⟩ = L at *
  generalize bareD ⟨k, a, n, dr, b⟩ = B at *
  obtain ⟨S, hS⟩ : ∃ S : ByteArray, S = ⟨L.toArray⟩ := ⟨_, rfl⟩
  have hemp : S.toList.isEmpty = L.isEmpty := by rw [Go.ByteArray.toList_eq, hS]
  rw [← hS] at HLN
  have HS := Lib.hid hS
  clear hS
  go_enter Tryz.func16, Tryz.ntmps16
  go_wp2_with fail
  generalize w.alloc (.cells #[.int .i64 k, .int .i64 a, .int .i64 n, .int .u64 dr, .slice ap m cap] 45) = W1 at *
  refine (HLN.out _ HKW.out).mono ?_
  rintro e w2 ⟨rfl, hk2⟩
  obtain ⟨d0, d1, d2, d3, d4⟩ := HCL.out _ hk2
  have HK2 := Lib.hid (HKW.out.trans hk2)
  clear hk2
  cases hL : L.isEmpty with
  | true =>
    rw [hL] at hemp
    have hL0 : L = [] := by simpa using hL
    have hTT : T = ([], 251) := by rw [← HT.out, if_pos hL0]
    clear hL hL0
    go_wp2_with fail
    go_ret2
    exact ⟨by rw [hTT]; rfl, HK2.out⟩
  | false =>
    rw [hL] at hemp
    have hL0 : ¬ L = [] := by intro e; rw [e] at hL; cases hL
    cases B with
    | true =>
      have hTT : T = (L, 0) := by rw [← HT.out, if_neg hL0, if_pos rfl]
      clear hL hL0
      go_wp2_with fail
      refine (HBR.out _ HK2.out).mono ?_
      rintro e w3 ⟨rfl, hk3⟩
      go_wp2_with fail
      go_ret2
      exact ⟨by rw [hTT, HS.out]; rfl, HK2.out.trans hk3⟩
    | false =>
      have hTT : T = ([], 251) := by rw [← HT.out, if_neg hL0, if_neg (by decide)]
      clear hL hL0
      go_wp2_with fail
      refine (HBR.out _ HK2.out).mono ?_
      rintro e w3 ⟨rfl, hk3⟩
      go_wp2_with fail
      go_ret2
      exact ⟨by rw [hTT]; rfl, HK2.out.trans hk3⟩
end Go.Proofs.YtdinkdmkbfbjbaaGreatDoor
namespace Go.Proofs.YtdinkdmkbfbjbaaGreatDoor
open Go.RowKit
attribute [local go_sem] fold_part fold_some fold_some' partAt_zero

theorem DeedV.kept {w w' : World} {v : Value} {d : Deed} (h : DeedV w v d) (hk : Kept NoBlock w w') : DeedV w' v d := by
  obtain ⟨bv, rfl, hb⟩ := h; exact ⟨bv, rfl, hb.keptNo hk⟩

end Go.Proofs.YtdinkdmkbfbjbaaGreatDoor
namespace Go.Proofs.YtdinkdmkbfbjbaaGreatDoor
open Go.RowKit

theorem nrdigit (c : Nat) (w : World) (hc : c ≤ 255) : Calls Tryz.prog 42 #[.int .u8 c] w fun e w' => e = .returned (.bool (decide (48 ≤ c) && decide (c ≤ 57))) ∧ w = w' := by
  rcases Nat.lt_or_ge c 48 with h1 | h1
  · have e : (decide (48 ≤ c) && decide (c ≤ 57)) = false := by simp; omega
    rw [e]
    have h1' : ¬ (48 ≤ (c : Int)) := by omega
    go_enter Tryz.func42, Tryz.ntmps42
    go_wp2
    go_ret
    exact ⟨rfl, rfl⟩
  · rcases Nat.lt_or_ge 57 c with h2 | h2
    · have e : (decide (48 ≤ c) && decide (c ≤ 57)) = false := by simp; omega
      rw [e]
      have h1' : (48 ≤ (c : Int)) := by omega
      have h2' : ¬ ((c : Int) ≤ 57) := by omega
      go_enter Tryz.func42, Tryz.ntmps42
      go_wp2
      go_ret
      exact ⟨by simp, rfl⟩
    · have e : (decide (48 ≤ c) && decide (c ≤ 57)) = true := by simp; omega
      rw [e]
      have h1' : (48 ≤ (c : Int)) := by omega
      have h2' : ((c : Int) ≤ 57) := by omega
      go_enter Tryz.func42, Tryz.ntmps42
      go_wp2
      go_ret
      exact ⟨by simp, rfl⟩

/-- The part behind the sign: digit by digit, below zero. -/
def tryDigits (n : Int) : List UInt8 → Option Int
  | [] => some n
  | c :: r => if 48 ≤ c.toNat ∧ c.toNat ≤ 57 then (if n * 10 - (c.toNat - 48 : Nat) < -9223372036854775808 then none else tryDigits (n * 10 - (c.toNat - 48 : Nat)) r) else none

def signed (l : List UInt8) : Bool := match l with | c :: _ => c.toNat == 45 | [] => false
def behind (l : List UInt8) : List UInt8 := if signed l then l.drop 1 else l
def badHead (b : Bool) (d : List UInt8) : Bool := match d with | [] => true | c :: r => c.toNat == 48 && (b || decide (0 < r.length))
def refV (l : List UInt8) : Int × Int :=
  if badHead (signed l) (behind l) then (0, 10) else
    match tryDigits 0 (behind l) with
    | none => (0, 10)
    | some n => if signed l then (n, 0) else if n = -9223372036854775808 then (0, 10) else (-n, 0)

theorem refV_bad {l : List UInt8} (h : badHead (signed l) (behind l) = true) : refV l = (0, 10) := by unfold refV; rw [h]; rfl
theorem refV_none {l : List UInt8} (h : badHead (signed l) (behind l) = false) (ht : tryDigits 0 (behind l) = none) : refV l = (0, 10) := by unfold refV; rw [h, ht]; rfl
theorem refV_neg {l : List UInt8} (h : badHead (signed l) (behind l) = false) {n : Int} (ht : tryDigits 0 (behind l) = some n) (hs : signed l = true) : refV l = (n, 0) := by unfold refV; rw [h, ht, hs]; rfl
theorem refV_min {l : List UInt8} (h : badHead (signed l) (behind l) = false) {n : Int} (ht : tryDigits 0 (behind l) = some n) (hs : signed l = false) (hn : n = -9223372036854775808) : refV l = (0, 10) := by
  unfold refV; rw [h, ht, hs]; subst hn; rfl
theorem refV_pos {l : List UInt8} (h : badHead (signed l) (behind l) = false) {n : Int} (ht : tryDigits 0 (behind l) = some n) (hs : signed l = false) (hn : n ≠ -9223372036854775808) : refV l = (-n, 0) := by
  unfold refV; rw [h, ht, hs]; simp [hn]

theorem try_step {l : List UInt8} {acc : Int} {j : Nat} {t : Option Int} (h : t = tryDigits acc (l.drop j)) (hj : j < l.length) : t = tryDigits acc (l[j] :: l.drop (j + 1)) := by
  rw [h, List.drop_eq_getElem_cons hj]

theorem quo_low (k : Nat) (hk : k ≤ 9) : ∃ Q : Int, (-9223372036854775808 + (k : Int)).tdiv 10 = Q ∧ -922337203685477580 ≤ Q ∧ Q ≤ -922337203685477579 ∧ ∀ acc : Int, acc < Q ↔ acc * 10 - k < -9223372036854775808 := by
  refine ⟨_, rfl, ?_⟩
  have e : (-9223372036854775808 + (k : Int)).tdiv 10 = -(((9223372036854775808 - k) / 10 : Nat) : Int) := by
    rw [show (-9223372036854775808 + (k : Int)) = -((9223372036854775808 - k : Nat) : Int) by omega, Int.neg_tdiv]
    rfl
  rw [e]
  refine ⟨by omega, by omega, fun acc => by omega⟩

theorem byte_at (D : ByteArray) (j : Nat) (h : j < D.size) : ∃ hl : j < D.data.toList.length, (D[j]'h) = D.data.toList[j] := ⟨by have := Lib.size_eq D; omega, rfl⟩

set_option maxHeartbeats 6400000 in
theorem nrparse (s : ByteArray) (hs : s.size ≤ 1000000) (w : World) : Calls Tryz.prog 25 #[.string s] w fun e w' => e = .returned (.tuple #[.int .i64 (refV s.data.toList).1, .int .i64 (refV s.data.toList).2]) ∧ w = w' := by
  have hLs : s.data.toList.length = s.size := (Lib.size_eq s).symm
  have hTL : s.toList = s.data.toList := Go.ByteArray.toList_eq s
  by_cases h0 : s.size = 0
  · have hl : s.data.toList = [] := List.eq_nil_of_length_eq_zero (by omega)
    have HR := Lib.hid (refV_bad (l := s.data.toList) (by rw [hl]; rfl))
    have hnil : s.toList = [] := by rw [hTL, hl]
    clear hl hLs hTL
    go_enter Tryz.func25, Tryz.ntmps25
    go_wp2
    go_ret2
    exact ⟨(by rw [HR.out]; rfl), rfl⟩
  · have hpos : 0 < s.size := by omega
    obtain ⟨ch, r, hl⟩ : ∃ ch r, s.data.toList = ch :: r := by
      cases h : s.data.toList with
      | nil => rw [h] at hLs; simp at hLs; omega
      | cons a b => exact ⟨a, b, rfl⟩
    have hne : ¬ (s.toList = []) := by rw [hTL, hl]; simp
    have hie : s.toList.isEmpty = false := by rw [hTL, hl]; rfl
    have hch : (s[0]'hpos) = ch := by
      obtain ⟨hx, e⟩ := byte_at s 0 hpos
      rw [e]; simp [hl]
    obtain ⟨c, hc⟩ : ∃ c, c = ch.toNat := ⟨_, rfl⟩
    have hc' : (s[0]'hpos).toNat = c := by rw [hch, hc]
    have hsg : signed s.data.toList = (c == 45) := by rw [hl, hc]; rfl
    cases hb : (c == 45)
    · have hbI : ((c : Int) == 45) = false := by
        rw [beq_eq_false_iff_ne] at hb ⊢; omega
      have hbe : behind s.data.toList = s.data.toList := by unfold behind; rw [hsg, hb]; rfl
      rw [hb] at hsg
      obtain ⟨D, hD⟩ : ∃ D, D = s := ⟨_, rfl⟩
      have hDL := hLs
      have HSG := Lib.hid hsg
      have HBE := Lib.hid hbe
      have HLL := Lib.hid hl
      have hie2 := hie
      have c1 := c
      clear hsg hbe hTL hch hb hD c1 D
      by_cases h48 : c = 48 ∧ 1 < s.size
      · have HR := Lib.hid (refV_bad (l := s.data.toList) (by
          rw [HSG.out, HBE.out, HLL.out]
          have : 0 < r.length := by have := h48.2; rw [← hLs, HLL.out, List.length_cons] at this; omega
          simp [badHead, ← hc, h48.1, this]))
        have h1 := h48.2
        have hcI : (c : Int) = 48 := by omega
        clear h48 hl hc
        go_enter Tryz.func25, Tryz.ntmps25
        go_wp2
        go_ret2
        exact ⟨(by rw [HR.out]; rfl), rfl⟩
      · have hbh : badHead (signed s.data.toList) (behind s.data.toList) = false := by
          rw [HSG.out, HBE.out, HLL.out]
          simp only [badHead, ← hc, Bool.false_or, Bool.and_eq_false_iff, beq_eq_false_iff_ne, decide_eq_false_iff_not]
          have : r.length + 1 = s.size := by rw [← hLs, HLL.out, List.length_cons]
          omega
        have HBH := Lib.hid hbh
        clear hbh hl hc
        have h48' : ¬ (c = 48) ∨ (c = 48 ∧ ¬ (1 < s.size)) := by omega
        rcases h48' with h48' | ⟨h48', h1s⟩
        · have hcI : ((c : Int) == 48) = false := by rw [beq_eq_false_iff_ne]; omega
          have hcI2 : ¬ ((c : Int) = 48) := by omega
          clear h48
          go_enter Tryz.func25, Tryz.ntmps25
          go_wp2
          go_loopw [6, 7] (fun vn vi wr => ∃ (j : Nat) (acc : Int), j ≤ s.size ∧ vn = .int .i64 acc ∧ vi = .int .i64 j ∧ -9223372036854775808 ≤ acc ∧ acc ≤ 0 ∧ tryDigits 0 s.data.toList = tryDigits acc (s.data.toList.drop j) ∧ w = wr) (fun _ vi _ => s.size - (intOf vi).toNat)
          case atStart => exact ⟨0, 0, Nat.zero_le _, rfl, rfl, by omega, by omega, rfl, rfl⟩
          case round =>
            obtain ⟨j, acc, hj, rfl, rfl, ha1, ha2, htr, rfl⟩ := hrel
            by_cases hlt : j < s.size
            · obtain ⟨hjl, hbyte⟩ := byte_at s j hlt
              have hst := try_step htr hjl
              rw [← hbyte] at hst
              obtain ⟨x, hx⟩ : ∃ x, (s[j]'hlt).toNat = x := ⟨_, rfl⟩
              have hx255 : x ≤ 255 := by have := (s[j]'hlt).toNat_lt; omega
              have HX := Lib.hid hx
              have HST := Lib.hid hst
              have hdg := nrdigit x w hx255
              clear hst htr hbyte hjl
              by_cases hdig : 48 ≤ x ∧ x ≤ 57
              · obtain ⟨k, hk⟩ : ∃ k, k = x - 48 := ⟨_, rfl⟩
                have hk9 : k ≤ 9 := by omega
                have hkI : (x : Int) - 48 = (k : Int) := by omega
                obtain ⟨Q, hQ, hQ1, hQ2, hQA⟩ := quo_low k hk9
                have hQa := hQA acc
                clear hQA
                have e : (decide (48 ≤ x) && decide (x ≤ 57)) = true := by simp [hdig.1, hdig.2]
                rw [e] at hdg
                have g1 := hdig.1
                have g2 := hdig.2
                have HK := Lib.hid hk
                have HDG := Lib.hid hdig
                clear e hk hdig
                by_cases hq : acc < Q
                · have hn : tryDigits 0 s.data.toList = none := by
                    rw [HST.out]
                    simp only [tryDigits, HX.out]
                    rw [if_pos HDG.out, if_pos (by have := HK.out; omega)]
                  have HR := Lib.hid (refV_none HBH.out (by rw [HBE.out]; exact hn))
                  clear hn hQa
                  go_wp2_with (go_at_call 42; refine hdg.mono ?_; rintro e w' ⟨rfl, rfl⟩)
                  go_ret2
                  exact ⟨(by rw [HR.out]; rfl), rfl⟩
                · have hge : -9223372036854775808 ≤ acc * 10 - k := by omega
                  have hge2 : acc * 10 - k ≤ 0 := by omega
                  have hge3 : -9223372036854775808 ≤ acc * 10 := by omega
                  have hge4 : acc * 10 ≤ 0 := by omega
                  have hn : tryDigits 0 s.data.toList = tryDigits (acc * 10 - k) (s.data.toList.drop (j + 1)) := by
                    rw [HST.out]
                    simp only [tryDigits, HX.out]
                    rw [if_pos HDG.out, ← HK.out, if_neg (by omega)]
                  have HN := Lib.hid hn
                  clear hn hQa
                  go_wp2_with (go_at_call 42; refine hdg.mono ?_; rintro e w' ⟨rfl, rfl⟩)
                  go_roundw
                  case rel => exact ⟨j + 1, acc * 10 - k, by omega, rfl, by go_num, hge, hge2, HN.out, trivial⟩
                  case measure => simp [intOf]; omega
              · have e : (decide (48 ≤ x) && decide (x ≤ 57)) = false := by simp; omega
                rw [e] at hdg
                have hn : tryDigits 0 s.data.toList = none := by
                  rw [HST.out]
                  simp only [tryDigits, HX.out]
                  rw [if_neg hdig]
                have HR := Lib.hid (refV_none HBH.out (by rw [HBE.out]; exact hn))
                clear hn e hdig
                go_wp2_with (go_at_call 42; refine hdg.mono ?_; rintro e w' ⟨rfl, rfl⟩)
                go_ret2
                exact ⟨(by rw [HR.out]; rfl), rfl⟩
            · have hend : tryDigits 0 (behind s.data.toList) = some acc := by
                rw [HBE.out, htr, List.drop_of_length_le (by omega)]; rfl
              clear htr
              by_cases hmin : acc = -9223372036854775808
              · have HR := Lib.hid (refV_min HBH.out hend HSG.out hmin)
                have hb1 : (acc == -9223372036854775808) = true := by simpa using hmin
                clear hend hmin
                go_wp2
                go_ret2
                exact ⟨(by rw [HR.out]; rfl), rfl⟩
              · have HR := Lib.hid (refV_pos HBH.out hend HSG.out hmin)
                have hb1 : (acc == -9223372036854775808) = false := by simpa using hmin
                have hb2 : -9223372036854775807 ≤ acc := by omega
                clear hend hmin
                go_wp2
                go_ret2
                exact ⟨(by rw [HR.out]; rfl), rfl⟩
        · have hcI : ((c : Int) == 48) = true := by rw [beq_iff_eq]; omega
          have hcI2 : (c : Int) = 48 := by omega
          have h1I : ¬ (1 < (s.size : Int)) := by omega
          clear h48 h48'
          go_enter Tryz.func25, Tryz.ntmps25
          go_wp2
          go_loopw [6, 7] (fun vn vi wr => ∃ (j : Nat) (acc : Int), j ≤ s.size ∧ vn = .int .i64 acc ∧ vi = .int .i64 j ∧ -9223372036854775808 ≤ acc ∧ acc ≤ 0 ∧ tryDigits 0 s.data.toList = tryDigits acc (s.data.toList.drop j) ∧ w = wr) (fun _ vi _ => s.size - (intOf vi).toNat)
          case atStart => exact ⟨0, 0, Nat.zero_le _, rfl, rfl, by omega, by omega, rfl, rfl⟩
          case round =>
            obtain ⟨j, acc, hj, rfl, rfl, ha1, ha2, htr, rfl⟩ := hrel
            by_cases hlt : j < s.size
            · obtain ⟨hjl, hbyte⟩ := byte_at s j hlt
              have hst := try_step htr hjl
              rw [← hbyte] at hst
              obtain ⟨x, hx⟩ : ∃ x, (s[j]'hlt).toNat = x := ⟨_, rfl⟩
              have hx255 : x ≤ 255 := by have := (s[j]'hlt).toNat_lt; omega
              have HX := Lib.hid hx
              have HST := Lib.hid hst
              have hdg := nrdigit x w hx255
              clear hst htr hbyte hjl
              by_cases hdig : 48 ≤ x ∧ x ≤ 57
              · obtain ⟨k, hk⟩ : ∃ k, k = x - 48 := ⟨_, rfl⟩
                have hk9 : k ≤ 9 := by omega
                have hkI : (x : Int) - 48 = (k : Int) := by omega
                obtain ⟨Q, hQ, hQ1, hQ2, hQA⟩ := quo_low k hk9
                have hQa := hQA acc
                clear hQA
                have e : (decide (48 ≤ x) && decide (x ≤ 57)) = true := by simp [hdig.1, hdig.2]
                rw [e] at hdg
                have g1 := hdig.1
                have g2 := hdig.2
                have HK := Lib.hid hk
                have HDG := Lib.hid hdig
                clear e hk hdig
                by_cases hq : acc < Q
                · have hn : tryDigits 0 s.data.toList = none := by
                    rw [HST.out]
                    simp only [tryDigits, HX.out]
                    rw [if_pos HDG.out, if_pos (by have := HK.out; omega)]
                  have HR := Lib.hid (refV_none HBH.out (by rw [HBE.out]; exact hn))
                  clear hn hQa
                  go_wp2_with (go_at_call 42; refine hdg.mono ?_; rintro e w' ⟨rfl, rfl⟩)
                  go_ret2
                  exact ⟨(by rw [HR.out]; rfl), rfl⟩
                · have hge : -9223372036854775808 ≤ acc * 10 - k := by omega
                  have hge2 : acc * 10 - k ≤ 0 := by omega
                  have hge3 : -9223372036854775808 ≤ acc * 10 := by omega
                  have hge4 : acc * 10 ≤ 0 := by omega
                  have hn : tryDigits 0 s.data.toList = tryDigits (acc * 10 - k) (s.data.toList.drop (j + 1)) := by
                    rw [HST.out]
                    simp only [tryDigits, HX.out]
                    rw [if_pos HDG.out, ← HK.out, if_neg (by omega)]
                  have HN := Lib.hid hn
                  clear hn hQa
                  go_wp2_with (go_at_call 42; refine hdg.mono ?_; rintro e w' ⟨rfl, rfl⟩)
                  go_roundw
                  case rel => exact ⟨j + 1, acc * 10 - k, by omega, rfl, by go_num, hge, hge2, HN.out, trivial⟩
                  case measure => simp [intOf]; omega
              · have e : (decide (48 ≤ x) && decide (x ≤ 57)) = false := by simp; omega
                rw [e] at hdg
                have hn : tryDigits 0 s.data.toList = none := by
                  rw [HST.out]
                  simp only [tryDigits, HX.out]
                  rw [if_neg hdig]
                have HR := Lib.hid (refV_none HBH.out (by rw [HBE.out]; exact hn))
                clear hn e hdig
                go_wp2_with (go_at_call 42; refine hdg.mono ?_; rintro e w' ⟨rfl, rfl⟩)
                go_ret2
                exact ⟨(by rw [HR.out]; rfl), rfl⟩
            · have hend : tryDigits 0 (behind s.data.toList) = some acc := by
                rw [HBE.out, htr, List.drop_of_length_le (by omega)]; rfl
              clear htr
              by_cases hmin : acc = -9223372036854775808
              · have HR := Lib.hid (refV_min HBH.out hend HSG.out hmin)
                have hb1 : (acc == -9223372036854775808) = true := by simpa using hmin
                clear hend hmin
                go_wp2
                go_ret2
                exact ⟨(by rw [HR.out]; rfl), rfl⟩
              · have HR := Lib.hid (refV_pos HBH.out hend HSG.out hmin)
                have hb1 : (acc == -9223372036854775808) = false := by simpa using hmin
                have hb2 : -9223372036854775807 ≤ acc := by omega
                clear hend hmin
                go_wp2
                go_ret2
                exact ⟨(by rw [HR.out]; rfl), rfl⟩
    · have hbI : ((c : Int) == 45) = true := by
        rw [beq_iff_eq] at hb ⊢; omega
      rw [hb] at hsg
      obtain ⟨D, hD⟩ : ∃ D, s.extract 1 s.size = D := ⟨_, rfl⟩
      have hDd : D.data.toList = r := by
        rw [← hD]
        rw [ByteArray.data_extract, Array.toList_extract, hl]
        simp only [List.extract, List.drop_succ_cons, List.drop_zero]
        rw [hl, List.length_cons] at hLs
        exact List.take_of_length_le (by omega)
      have hbe : behind s.data.toList = D.data.toList := by unfold behind; rw [hsg, hl, hDd]; rfl
      have hDsz : D.size = s.size - 1 := by rw [← hD]; simp
      have hDL : D.data.toList.length = D.size := (Lib.size_eq D).symm
      have hDT : D.toList = D.data.toList := Go.ByteArray.toList_eq D
      have HSG := Lib.hid hsg
      have HBE := Lib.hid hbe
      clear hsg hbe hTL hch hb hl hc hDd hLs
      have hDs1 : D.size ≤ 1000000 := by omega
      by_cases hD0 : D.size = 0
      · have hdn : D.data.toList = [] := List.eq_nil_of_length_eq_zero (by omega)
        have HR := Lib.hid (refV_bad (l := s.data.toList) (by rw [HSG.out, HBE.out, hdn]; rfl))
        have hnil : D.toList = [] := by rw [hDT, hdn]
        clear hdn hDL hDT hDsz
        go_enter Tryz.func25, Tryz.ntmps25
        go_wp2
        go_ret2
        exact ⟨(by rw [HR.out]; rfl), rfl⟩
      · have hDpos : 0 < D.size := by omega
        obtain ⟨dh, dr, hdl⟩ : ∃ a b, D.data.toList = a :: b := by
          cases h : D.data.toList with
          | nil => rw [h] at hDL; simp at hDL; omega
          | cons a b => exact ⟨a, b, rfl⟩
        have hDne : ¬ (D.toList = []) := by rw [hDT, hdl]; simp
        have hDie : D.toList.isEmpty = false := by rw [hDT, hdl]; rfl
        have hdh : (D[0]'hDpos) = dh := by
          obtain ⟨hx, e⟩ := byte_at D 0 hDpos
          rw [e]; simp [hdl]
        obtain ⟨d, hd⟩ : ∃ d, d = dh.toNat := ⟨_, rfl⟩
        have hd' : (D[0]'hDpos).toNat = d := by rw [hdh, hd]
        have hsz1 : 0 < s.size - 1 := by omega
        clear hdh hDT
        by_cases h48 : d = 48
        · have HR := Lib.hid (refV_bad (l := s.data.toList) (by rw [HSG.out, HBE.out, hdl]; simp [badHead, ← hd, h48]))
          have hdI : (d : Int) = 48 := by omega
          have hdI2 : ((d : Int) == 48) = true := by rw [beq_iff_eq]; omega
          clear h48 hdl hd hDsz hDL
          go_enter Tryz.func25, Tryz.ntmps25
          go_wp2
          go_ret2
          exact ⟨(by rw [HR.out]; rfl), rfl⟩
        · have hbh : badHead (signed s.data.toList) (behind s.data.toList) = false := by
            rw [HSG.out, HBE.out, hdl]; simp [badHead, ← hd, h48]
          have HBH := Lib.hid hbh
          have hdI : ¬ ((d : Int) = 48) := by omega
          have hdI2 : ((d : Int) == 48) = false := by rw [beq_eq_false_iff_ne]; omega
          clear hbh h48 hdl hd hDsz
          go_enter Tryz.func25, Tryz.ntmps25
          go_wp2
          go_loopw [6, 7] (fun vn vi wr => ∃ (j : Nat) (acc : Int), j ≤ D.size ∧ vn = .int .i64 acc ∧ vi = .int .i64 j ∧ -9223372036854775808 ≤ acc ∧ acc ≤ 0 ∧ tryDigits 0 D.data.toList = tryDigits acc (D.data.toList.drop j) ∧ w = wr) (fun _ vi _ => D.size - (intOf vi).toNat)
          case atStart => exact ⟨0, 0, Nat.zero_le _, rfl, rfl, by omega, by omega, rfl, rfl⟩
          case round =>
            obtain ⟨j, acc, hj, rfl, rfl, ha1, ha2, htr, rfl⟩ := hrel
            by_cases hlt : j < D.size
            · obtain ⟨hjl, hbyte⟩ := byte_at D j hlt
              have hst := try_step htr hjl
              rw [← hbyte] at hst
              obtain ⟨x, hx⟩ : ∃ x, (D[j]'hlt).toNat = x := ⟨_, rfl⟩
              have hx255 : x ≤ 255 := by have := (D[j]'hlt).toNat_lt; omega
              have HX := Lib.hid hx
              have HST := Lib.hid hst
              have hdg := nrdigit x w hx255
              clear hst htr hbyte hjl
              by_cases hdig : 48 ≤ x ∧ x ≤ 57
              · obtain ⟨k, hk⟩ : ∃ k, k = x - 48 := ⟨_, rfl⟩
                have hk9 : k ≤ 9 := by omega
                have hkI : (x : Int) - 48 = (k : Int) := by omega
                obtain ⟨Q, hQ, hQ1, hQ2, hQA⟩ := quo_low k hk9
                have hQa := hQA acc
                clear hQA
                have e : (decide (48 ≤ x) && decide (x ≤ 57)) = true := by simp [hdig.1, hdig.2]
                rw [e] at hdg
                have g1 := hdig.1
                have g2 := hdig.2
                have HK := Lib.hid hk
                have HDG := Lib.hid hdig
                clear e hk hdig
                by_cases hq : acc < Q
                · have hn : tryDigits 0 D.data.toList = none := by
                    rw [HST.out]
                    simp only [tryDigits, HX.out]
                    rw [if_pos HDG.out, if_pos (by have := HK.out; omega)]
                  have HR := Lib.hid (refV_none HBH.out (by rw [HBE.out]; exact hn))
                  clear hn hQa
                  go_wp2_with (go_at_call 42; refine hdg.mono ?_; rintro e w' ⟨rfl, rfl⟩)
                  go_ret2
                  exact ⟨(by rw [HR.out]; rfl), rfl⟩
                · have hge : -9223372036854775808 ≤ acc * 10 - k := by omega
                  have hge2 : acc * 10 - k ≤ 0 := by omega
                  have hge3 : -9223372036854775808 ≤ acc * 10 := by omega
                  have hge4 : acc * 10 ≤ 0 := by omega
                  have hn : tryDigits 0 D.data.toList = tryDigits (acc * 10 - k) (D.data.toList.drop (j + 1)) := by
                    rw [HST.out]
                    simp only [tryDigits, HX.out]
                    rw [if_pos HDG.out, ← HK.out, if_neg (by omega)]
                  have HN := Lib.hid hn
                  clear hn hQa
                  go_wp2_with (go_at_call 42; refine hdg.mono ?_; rintro e w' ⟨rfl, rfl⟩)
                  go_roundw
                  case rel => exact ⟨j + 1, acc * 10 - k, by omega, rfl, by go_num, hge, hge2, HN.out, trivial⟩
                  case measure => simp [intOf]; omega
              · have e : (decide (48 ≤ x) && decide (x ≤ 57)) = false := by simp; omega
                rw [e] at hdg
                have hn : tryDigits 0 D.data.toList = none := by
                  rw [HST.out]
                  simp only [tryDigits, HX.out]
                  rw [if_neg hdig]
                have HR := Lib.hid (refV_none HBH.out (by rw [HBE.out]; exact hn))
                clear hn e hdig
                go_wp2_with (go_at_call 42; refine hdg.mono ?_; rintro e w' ⟨rfl, rfl⟩)
                go_ret2
                exact ⟨(by rw [HR.out]; rfl), rfl⟩
            · have hend : tryDigits 0 (behind s.data.toList) = some acc := by
                rw [HBE.out, htr, List.drop_of_length_le (by omega)]; rfl
              clear htr
              have HR := Lib.hid (refV_neg HBH.out hend HSG.out)
              clear hend
              go_wp2
              go_ret2
              exact ⟨(by rw [HR.out]; rfl), rfl⟩
end Go.Proofs.YtdinkdmkbfbjbaaGreatDoor
namespace Go.Proofs.YtdinkdmkbfbjbaaGreatDoor
open Go.RowKit
attribute [local go_sem] fold_part fold_some fold_some' partAt_zero

/-- script.whole: a number's text as an int, and is it one? -/
theorem pwhole (l : Bs) (hl : l.length ≤ 20000) (w : World) (hV : Vs w) :
    Calls Tryz.prog 19 #[.string ⟨l.toArray⟩] w fun e w' => e = .returned (.tuple #[.int .i64 (parseV l).1, .bool ((parseV l).2 == 0)]) ∧ Kept NoBlock w w' := by
  have hp := nparse ⟨l.toArray⟩ (by show l.length ≤ 1000000; omega) w hV
  have HP := Lib.hid hp
  clear hp
  go_enter Tryz.func19, Tryz.ntmps19
  go_wp2_with (go_at_call 33; refine HP.out.mono ?_; rintro e w2 ⟨rfl, hb2⟩)
  go_ret2
  exact ⟨rfl, Kept.ofB hb2⟩

/-- The document's 'signed'. -/
theorem rsigned (l : Bs) (hl : l.length ≤ 20000) (w : World) :
    Calls Tryz.prog 12 #[.string ⟨l.toArray⟩] w fun e w' => e = .returned (.int .i64 (refV l).1) ∧ w = w' := by
  have hp := nrparse ⟨l.toArray⟩ (by show l.length ≤ 1000000; omega) w
  have HP := Lib.hid hp
  clear hp
  go_enter Tryz.func12, Tryz.ntmps12
  go_wp2_with (go_at_call 25; refine HP.out.mono ?_; rintro e w2 ⟨rfl, rfl⟩)
  go_ret
  exact ⟨rfl, rfl⟩
end Go.Proofs.YtdinkdmkbfbjbaaGreatDoor
namespace Go.Proofs.YtdinkdmkbfbjbaaGreatDoor
open Go.RowKit
attribute [local go_sem] fold_part fold_some fold_some' partAt_zero

def kwords : List ByteArray := [⟨#[]⟩, ⟨#[111, 112, 101, 110]⟩, ⟨#[115, 101, 110, 100]⟩, ⟨#[117, 112]⟩, ⟨#[100, 111, 119, 110]⟩, ⟨#[99, 117, 116]⟩, ⟨#[116, 105, 99, 107]⟩, ⟨#[114, 101, 115, 116, 97, 114, 116]⟩]
/-- A word's kind. -/
def kindV (l : Bs) : Int := Lib.idxOfS kwords ⟨l.toArray⟩

set_option maxRecDepth 100000 in
theorem pkind (l : Bs) (w : World) :
    Calls Tryz.prog 21 #[.string ⟨l.toArray⟩] w fun e w' => e = .returned (.int .i64 (kindV l)) ∧ Kept NoBlock w w' := by
  have hnew := heap_alloc_new w (.cells #[.string ⟨#[]⟩, .string ⟨#[111, 112, 101, 110]⟩, .string ⟨#[115, 101, 110, 100]⟩, .string ⟨#[117, 112]⟩, .string ⟨#[100, 111, 119, 110]⟩, .string ⟨#[99, 117, 116]⟩, .string ⟨#[116, 105, 99, 107]⟩, .string ⟨#[114, 101, 115, 116, 97, 114, 116]⟩] 9)
  have hx := Tryz.slices_Index_string w.heap.size 0 8 8 kwords ⟨l.toArray⟩ (w.alloc (.cells #[.string ⟨#[]⟩, .string ⟨#[111, 112, 101, 110]⟩, .string ⟨#[115, 101, 110, 100]⟩, .string ⟨#[117, 112]⟩, .string ⟨#[100, 111, 119, 110]⟩, .string ⟨#[99, 117, 116]⟩, .string ⟨#[116, 105, 99, 107]⟩, .string ⟨#[114, 101, 115, 116, 97, 114, 116]⟩] 9)) (by decide) (by decide) (fun j hj => by
    rw [Nat.zero_add]
    have hj8 : j < 8 := hj
    refine cellB hnew ?_
    rcases (by omega : j = 0 ∨ j = 1 ∨ j = 2 ∨ j = 3 ∨ j = 4 ∨ j = 5 ∨ j = 6 ∨ j = 7) with rfl | rfl | rfl | rfl | rfl | rfl | rfl | rfl <;> rfl)
  have HX := Lib.hid hx
  clear hx hnew
  go_enter Tryz.func21, Tryz.ntmps21
  go_wp2_with (go_at_call 35; refine HX.out.mono ?_; rintro e w2 ⟨rfl, rfl⟩)
  go_ret
  exact ⟨rfl, Kept.allocd _ _⟩
end Go.Proofs.YtdinkdmkbfbjbaaGreatDoor
namespace Go.Proofs.YtdinkdmkbfbjbaaGreatDoor
open Go.RowKit
attribute [local go_sem] fold_part fold_some fold_some' partAt_zero

def bigStep (n : Nat) (c : UInt8) : Nat := (n * 10 + (c.toNat + 208) % 256) % 18446744073709551616
/-- The document's 'big'. -/
def bigV (l : Bs) : Nat := l.foldl bigStep 0
theorem bigStep_lt (n : Nat) (c : UInt8) : bigStep n c < 18446744073709551616 := Nat.mod_lt _ (by decide)
theorem bigV_lt (l : Bs) : bigV l < 18446744073709551616 := by
  unfold bigV
  have key : ∀ (l : Bs) (n : Nat), n < 18446744073709551616 → l.foldl bigStep n < 18446744073709551616 := by
    intro l
    induction l with
    | nil => intro n h; exact h
    | cons c l ih => intro n _; exact ih _ (bigStep_lt n c)
  exact key l 0 (by decide)

set_option maxRecDepth 100000 in
set_option maxHeartbeats 1600000 in
theorem rbig (l : Bs) (hl : l.length ≤ 20000) (w : World) :
    Calls Tryz.prog 28 #[.string ⟨l.toArray⟩] w fun e w' => e = .returned (.int .u64 (bigV l)) ∧ w = w' := by
  generalize hM : bigV l = M
  unfold bigV at hM
  obtain ⟨S, hS⟩ : ∃ S : ByteArray, S = ⟨l.toArray⟩ := ⟨_, rfl⟩
  have hSz := str_size hS
  have hS6 : S.size ≤ 20000 := by omega
  rw [← hS]
  have HM := Lib.hid hM
  have HS := Lib.hid hS
  have HSZ := Lib.hid hSz
  clear hM hS hSz hl
  go_enter Tryz.func28, Tryz.ntmps28
  go_wp2
  go_loopw [3, 4] (fun vn vi wr => ∃ (i n : Nat), vi = .int .i64 i ∧ i ≤ S.size ∧ vn = .int .u64 (n : Int) ∧ n = (l.take i).foldl bigStep 0 ∧ w = wr) (fun _ vi _ => S.size - (intOf vi).toNat)
  case atStart => exact ⟨0, 0, rfl, Nat.zero_le _, rfl, rfl, rfl⟩
  case round =>
    obtain ⟨i, n, rfl, hi, rfl, hn, rfl⟩ := hrel
    have HN := Lib.hid hn
    clear hn
    by_cases hlt : i < S.size
    · have hil : i < l.length := by rw [← HSZ.out]; exact hlt
      obtain ⟨c, hc⟩ : ∃ c, c = l[i] := ⟨_, rfl⟩
      have hci : l[i]? = some c := by rw [List.getElem?_eq_getElem hil, hc]
      obtain ⟨hii, ei⟩ := str_at HS.out hci
      have hst : (l.take (i + 1)).foldl bigStep 0 = bigStep n c := by rw [take_snoc' l i hil, List.foldl_append, ← HN.out, ← hc]; rfl
      have HST := Lib.hid hst
      have hltI : (i : Int) < (S.size : Int) := by omega
      have hstep : ((bigStep n c : Nat) : Int) = IntKind.u64.wrap (IntKind.u64.wrap ((n : Int) * 10) + ((c.toNat : Int) - 48) % 256) := by
        have := c.toNat_lt
        unfold bigStep
        rw [IntKind.wrap_u64, IntKind.wrap_u64]
        omega
      have HSTEP := Lib.hid hstep
      clear hst hci hc hil hstep
      go_wp2
      go_roundw
      case rel => exact ⟨i + 1, bigStep n c, by go_num, by omega, by rw [HSTEP.out], HST.out.symm, trivial⟩
      case measure => simp [intOf]; omega
    · obtain rfl : i = S.size := by omega
      have hN := HN.out
      rw [List.take_of_length_le (by rw [← HSZ.out]; exact Nat.le_refl _), HM.out] at hN
      subst hN
      go_wp2
      go_ret
      trivial
end Go.Proofs.YtdinkdmkbfbjbaaGreatDoor
namespace Go.Proofs.YtdinkdmkbfbjbaaGreatDoor
open Go.RowKit
attribute [local go_sem] fold_part fold_some fold_some' partAt_zero

theorem strInfo : (Tryz.prog.info? 9).map (fun i => (i.zero, i.size, i.bytes)) = some (some (.string ⟨#[]⟩), 1, 16) := by kernel_rfl
def strV (l : Bs) : Value := .string ⟨l.toArray⟩

/-- A row of texts that the call itself has made. -/
def OwnS (w : World) (base : Nat) (v : Value) (L : List Bs) : Prop := OwnM w base 9 v L.length (L.map strV)

theorem wpList_appS {w : World} {ops : Array Oper} {rest : List Oper} {o : Oper} {a : Act} {Q : Exit → Act → World → Prop} (hgd : o.guard = none) (s x : Operand)
    (ho : o.op = .call { callee := .builtin .append, args := #[s, x], argTypes := #[48, 48] })
    (base : Nat) (v : Value) (L : List Bs) (hs : a.eval s = v) (hown : OwnS w base v L) (b : Nat) (p : Bs) (hx : a.eval x = .slice (some ⟨b, 0, none⟩) 1 1) (hu : w.heap[b]? = some (.cells #[strV p] 9 (0, 0))) (hlen : L.length ≤ 1000000) (hbase : base ≤ w.heap.size)
    (h : ∀ v' w', OwnS w' base v' (L ++ [p]) → w.grownBy w' v.ownBlock → wpList Tryz.prog ops Q rest (a.put o.dst v') w') : wpList Tryz.prog ops Q (o :: rest) a w := by
  obtain ⟨i0, hi, hz0, hz1, hz2⟩ := info_parts strInfo
  have hH : Holds w (some ⟨b, 0, none⟩) 1 [strV p] := ⟨rfl, fun _ => ⟨_, rfl, fun j v hj => by rw [addr_add, Nat.zero_add]; exact cellB hu (by simpa using hj)⟩⟩
  refine wpList_append_M (P := Tryz.prog) w hgd s x 48 ho base 9 i0 _ 16 Tryz.underlying48 hi hz0 hz1 hz2 rfl v L.length (L.map strV) hs hown (some ⟨b, 0, none⟩) 1 1 [strV p] hx hH (fun h => by cases h) (fun u hu => by obtain rfl := List.mem_singleton.1 hu; rfl) (by unfold maxLen; omega) (by omega) hbase ?_
  intro v' w' hr hg
  refine h v' w' ?_ hg
  unfold OwnS
  rw [List.length_append, List.map_append]
  exact hr

/-- The words of a text: cut at a blank, so often. -/
def wordsF : Nat → Bs → Bs → List Bs
  | _, cur, [] => [cur]
  | m, cur, c :: r => if c = 32 ∧ 0 < m then cur :: wordsF (m - 1) [] r else wordsF m (cur ++ [c]) r

set_option maxRecDepth 100000 in
set_option maxHeartbeats 1600000 in
theorem rwords (l : Bs) (hl : l.length ≤ 20000) (most : Nat) (hm : 1 ≤ most ∧ most ≤ 10) (w : World) :
    Calls Tryz.prog 11 #[.string ⟨l.toArray⟩, .int .i64 most] w fun e w' => ∃ v, e = .returned v ∧ OwnS w' w.heap.size v (wordsF (most - 1) [] l) ∧ Kept NoBlock w w' := by
  obtain ⟨hm1, hm2⟩ := hm
  generalize hM : wordsF (most - 1) [] l = M
  obtain ⟨S, hS⟩ : ∃ S : ByteArray, S = ⟨l.toArray⟩ := ⟨_, rfl⟩
  have hSz := str_size hS
  have hS6 : S.size ≤ 20000 := by omega
  rw [← hS]
  have HM := Lib.hid hM
  have HS := Lib.hid hS
  have HSZ := Lib.hid hSz
  clear hM hS hSz hl
  go_enter Tryz.func11, Tryz.ntmps11
  go_wp2
  go_loopw [5, 6, 7] (fun vo vf vi wr => ∃ (i f : Nat) (L : List Bs), vi = .int .i64 i ∧ vf = .int .i64 f ∧ i ≤ S.size + 1 ∧ f ≤ i ∧ OwnS wr w.heap.size vo L ∧ L.length ≤ i ∧ Kept NoBlock w wr ∧
      ((i = S.size + 1 ∧ L = M) ∨ (i ≤ S.size ∧ L.length < most ∧ L ++ wordsF (most - 1 - L.length) ((l.take i).drop f) (l.drop i) = M))) (fun _ _ vi _ => S.size + 1 - (intOf vi).toNat)
  case atStart => exact ⟨0, 0, [], rfl, rfl, Nat.zero_le _, Nat.le_refl _, OwnM.nil _ _ _, Nat.zero_le _, Kept.refl _ _, .inr ⟨Nat.zero_le _, hm1, HM.out⟩⟩
  case round =>
    obtain ⟨i, f, L, rfl, rfl, hi, hf, hown, hLi, hK, hend⟩ := hrel
    obtain ⟨ap, cap, rfl, _⟩ := OwnM.form hown
    have HO := Lib.hid hown
    have HK := Lib.hid hK
    have hsz := hK.size
    clear hown hK
    rcases hend with ⟨rfl, rfl⟩ | ⟨hi2, hLm, hW⟩
    · have hlI : ¬ ((S.size : Int) + 1 ≤ (S.size : Int)) := by omega
      go_wp2
      go_ret
      exact ⟨_, rfl, HO.out, HK.out⟩
    · have hlI : (i : Int) ≤ (S.size : Int) := by omega
      have HW := Lib.hid hW
      clear hW
      have hext : Value.string (S.extract f i) = strV ((l.take i).drop f) := by unfold strV; rw [HS.out, str_part]
      have HU := Lib.hid hext
      clear hext
      by_cases hlast : i = S.size
      · have hW := HW.out
        rw [show l.drop i = [] from List.drop_of_length_le (by rw [← HSZ.out]; omega)] at hW
        have hW2 : L ++ [(l.take i).drop f] = M := by rw [← hW]; cases (most - 1 - L.length) <;> rfl
        have HW2 := Lib.hid hW2
        have hlaB : ((i : Int) == (S.size : Int)) = true := by rw [hlast]; simp
        have HLA := Lib.hid hlast
        clear hW hW2 hlast
        go_wp2_with (at_builtin; refine wpList_appS rfl _ _ (by rfl) w.heap.size _ L (by rfl) (OwnM.alloc HO.out _) wr.heap.size ((l.take i).drop f) (by rfl) (by rw [HU.out]; exact heap_alloc_new wr _) (by omega) (by simp; omega) ?_; intro v3 w3 hown3 hg3; refine Hid.out ?_)
        have HK3 := Lib.hid (Kept.app (HK.out.trans (Kept.allocd wr _)) (OwnM.alloc HO.out _) (Nat.le_refl _) hg3)
        have HO3 := Lib.hid hown3
        clear hown3 hg3
        refine Lib.hid ?_
        go_wp2
        go_roundw
        case rel => exact ⟨i + 1, i + 1, L ++ [(l.take i).drop f], by go_num, by go_num, by omega, Nat.le_refl _, HO3.out, by rw [List.length_append, List.length_singleton]; omega, HK3.out, .inl ⟨by have := HLA.out; omega, HW2.out⟩⟩
        case measure => simp [intOf]; omega
      · have hlt : i < S.size := by omega
        have hlaI : ¬ ((i : Int) = (S.size : Int)) := by omega
        have hil : i < l.length := by rw [← HSZ.out]; exact hlt
        obtain ⟨c, hc⟩ : ∃ c, c = l[i] := ⟨_, rfl⟩
        have hci : l[i]? = some c := by rw [List.getElem?_eq_getElem hil, hc]
        obtain ⟨hii, ei⟩ := str_at HS.out hci
        have hW := HW.out
        rw [drop_cons hil, ← hc] at hW
        have htk : (l.take (i + 1)).drop f = (l.take i).drop f ++ [c] := by
          rw [take_snoc' l i hil, ← hc, List.drop_append_of_le_length (by rw [List.length_take]; omega)]
        have HTK := Lib.hid htk
        have HSZ2 := HSZ.out
        clear hci hc htk
        by_cases hcut : c = 32 ∧ L.length < most - 1
        · obtain ⟨rfl, hcut2⟩ := hcut
          have hcI : (L.length : Int) < (most : Int) - 1 := by omega
          have hW2 : (L ++ [(l.take i).drop f]) ++ wordsF (most - 1 - (L ++ [(l.take i).drop f]).length) ((l.take (i + 1)).drop (i + 1)) (l.drop (i + 1)) = M := by
            have hz : (l.take (i + 1)).drop (i + 1) = [] := List.drop_of_length_le (by rw [List.length_take]; omega)
            rw [hz, ← hW, wordsF, if_pos ⟨rfl, by omega⟩, List.length_append, List.length_singleton, List.append_assoc, Nat.sub_add_eq]
            rfl
          have HW2 := Lib.hid hW2
          clear hW hW2 HSZ2
          go_wp2_with (at_builtin; refine wpList_appS rfl _ _ (by rfl) w.heap.size _ L (by rfl) (OwnM.alloc HO.out _) wr.heap.size ((l.take i).drop f) (by rfl) (by rw [HU.out]; exact heap_alloc_new wr _) (by omega) (by simp; omega) ?_; intro v3 w3 hown3 hg3; refine Hid.out ?_)
          have HK3 := Lib.hid (Kept.app (HK.out.trans (Kept.allocd wr _)) (OwnM.alloc HO.out _) (Nat.le_refl _) hg3)
          have HO3 := Lib.hid hown3
          clear hown3 hg3
          refine Lib.hid ?_
          go_wp2
          go_roundw
          case rel => exact ⟨i + 1, i + 1, L ++ [(l.take i).drop f], by go_num, by go_num, by omega, Nat.le_refl _, HO3.out, by rw [List.length_append, List.length_singleton]; omega, HK3.out, .inr ⟨by omega, by rw [List.length_append, List.length_singleton]; omega, HW2.out⟩⟩
          case measure => simp [intOf]; omega
        · have hW2 : L ++ wordsF (most - 1 - L.length) ((l.take (i + 1)).drop f) (l.drop (i + 1)) = M := by
            rw [← hW, wordsF, if_neg (fun h => hcut ⟨h.1, by have := h.2; omega⟩), HTK.out]
          have HW2 := Lib.hid hW2
          have hcut' : ¬ ((c.toNat : Int) = 32) ∨ ((c.toNat : Int) = 32 ∧ ¬ ((L.length : Int) < (most : Int) - 1)) := by
            by_cases h : c = 32
            · exact .inr ⟨by rw [h]; rfl, by have : ¬ (L.length < most - 1) := fun h2 => hcut ⟨h, h2⟩; omega⟩
            · exact .inl (u8_neI h)
          clear hW hW2 HSZ2 hcut
          rcases hcut' with h1 | ⟨h1, h2⟩
          all_goals
            go_wp2
            go_roundw
            case rel => exact ⟨i + 1, f, L, by go_num, rfl, by omega, by omega, HO.out, by omega, HK.out, .inr ⟨by omega, hLm, HW2.out⟩⟩
            case measure => simp [intOf]; omega
end Go.Proofs.YtdinkdmkbfbjbaaGreatDoor
namespace Go.Proofs.YtdinkdmkbfbjbaaGreatDoor
open Go.RowKit

theorem pparseU (s : ByteArray) (hs : s.size ≤ 1000000) (w : World) (hV : Vs w) :
    Calls Tryz.prog 23 #[.string s, .int .i64 10, .int .i64 64] w fun e w' => ∃ (v : Nat) (ev : Value), e = .returned (.tuple #[.int .u64 v, ev]) ∧ Below w.heap.size w w' ∧ v < 18446744073709551616 ∧
      ((ev = .nilIface ∧ Lib.parseUintB 64 s.data.toList = .ok v) ∨ ((∃ t p, ev = .iface t p) ∧ ∀ u, Lib.parseUintB 64 s.data.toList ≠ .ok u)) := by
  cases h : Lib.parseUintB 64 s.data.toList with
  | ok v =>
    refine (Tryz.strconv_ParseUint_10_at64_ok s (by omega) v h w).mono ?_
    rintro e w' ⟨rfl, hw⟩
    refine ⟨v, .nilIface, rfl, ?_, ?_, .inl ⟨rfl, rfl⟩⟩
    · rcases hw with rfl | rfl
      · exact Below.refl _ _
      · exact Lib.bytesWorld_below _ _ _
    · unfold Lib.parseUintB at h
      split at h
      · cases h
      · have := Lib.parseUintM_le _ _ _ _ (Nat.zero_le _) h
        omega
  | «syntax» =>
    obtain ⟨tp, p, hv⟩ := hV.syn
    refine (Tryz.strconv_ParseUint_10_at64_syntax_var s (by omega) h tp p w hv).mono ?_
    rintro e w' ⟨N, rfl, _, _, hb⟩
    exact ⟨0, _, rfl, hb, by decide, .inr ⟨⟨_, _, rfl⟩, fun u h => by cases h⟩⟩
  | range =>
    obtain ⟨tp, p, hv⟩ := hV.ran
    refine (Tryz.strconv_ParseUint_10_at64_range_var s (by omega) h tp p w hv).mono ?_
    rintro e w' ⟨N, rfl, _, _, hb⟩
    exact ⟨18446744073709551615, _, rfl, hb, by decide, .inr ⟨⟨_, _, rfl⟩, fun u h => by cases h⟩⟩
end Go.Proofs.YtdinkdmkbfbjbaaGreatDoor
